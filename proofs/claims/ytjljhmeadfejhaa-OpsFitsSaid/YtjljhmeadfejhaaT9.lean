/- The reference's Finite, about the engine. -/
import Derived.Test.YtjljhmeadfejhaaT8
set_option maxRecDepth 100000
set_option linter.unusedVariables false
set_option linter.unusedSimpArgs false
namespace Go.Proofs.Ytjljhmeadfejhaa
open Go.Eng
theorem lp_ind' {C : Ctx} {k : List KI} {ι : Type} {keep : List Nat} {a : AC} {f : Fr} {h : List AO} (Inv : ι → Prop) (μ : ι → Nat) (F : ι → Fr) (H : ι → List AO)
    (step : ∀ i, Inv i → (∀ j, Inv j → μ j < μ i → LP C keep a k (F j) (H j)) → R C a (.lp keep a :: k) (keepF keep (F i)) (H i)) (i : ι) (hi : Inv i) (hf : F i = f) (hh : H i = h) : LP C keep a k f h := by
  subst hf hh
  exact lp_ind Inv μ F H step i hi
def rndM (ds : List Decl) (bs : List Bool) : List Bool := ds.map (oneM ds bs)
def itF (ds : List Decl) : Nat → List Bool
  | 0 => List.replicate ds.length false
  | k + 1 => rndM ds (itF ds k)
theorem itF_len (ds : List Decl) (k : Nat) : (itF ds k).length = ds.length := by cases k <;> simp [itF, rndM]
def rows (ds : List Decl) (n : Nat) : List AO := (List.range (n + 1)).map fun k => .box ((itF ds k).map .bool)
theorem rows_len (ds : List Decl) (n : Nat) : (rows ds n).length = n + 1 := by simp [rows]
theorem rows_get (ds : List Decl) (n : Nat) (l : List AO) : (rows ds n ++ l)[n]? = some (.box ((itF ds n).map .bool)) := by
  rw [List.getElem?_append_left (by rw [rows_len]; omega)]; simp [rows]
theorem rows_next (ds : List Decl) (n : Nat) (l : List AO) : (rows ds n ++ l)[n + 1]? = l[0]? := by
  rw [List.getElem?_append_right (by rw [rows_len]; omega), rows_len]; simp
theorem rows_set (ds : List Decl) (n : Nat) (x y : AO) : (rows ds n ++ [x]).set (n + 1) y = rows ds n ++ [y] := by
  rw [List.set_append_right _ _ (by rw [rows_len]; omega), rows_len]; simp
theorem rows_succ (ds : List Decl) (n : Nat) : rows ds (n + 1) = rows ds n ++ [.box ((itF ds (n + 1)).map .bool)] := by
  simp only [rows]
  rw [List.range_succ, List.map_append]; rfl
theorem mapO_bools (m : Nat) (H : List AO) (k : Nat) : ∀ bs : List Bool, mapO (frz m H (k + 1)) (bs.map .bool) = some (bs.map .bool)
  | [] => rfl
  | b :: bs => by simp [mapO, frz, mapO_bools m H k bs]

theorem w44' {h : List AO} {ds : List Decl} {bs : List Bool} {i m : Nat} {d : Decl} {K : ARes → List AO → Prop} (hm : m = bs.length) (hl : ds.length < 2199023255552) (hi : h[i]? = some (.box (bs.map .bool))) (hn : bs.length = ds.length) (hok : d.ok)
    (k : K (.ok (.bool (oneM ds bs d))) h) : W 44 [.rsl (ds.map Decl.av), .agg [.int .i64 d.kind, .str d.name, .rsl (d.fields.map Fld.av), .rsl (d.methods.map Mth.av), .int .i64 d.e], .msl i 0 m m] h K := by
  subst hm; exact w44 hl hi hn hok k
/-- A row that is filled: the first q cells are told. -/
def part (A : List AV) (q : Nat) (z : AV) : List AV := A.take q ++ List.replicate (A.length - q) z
theorem part_len (A : List AV) (q : Nat) (z : AV) (hq : q ≤ A.length) : (part A q z).length = A.length := by simp [part]; omega
theorem part_set (A : List AV) (q : Nat) (z y : AV) (hq : q < A.length) (hy : A[q] = y) : setL (part A q z) q [y] = part A (q + 1) z := by
  have hl : (A.take q).length = q := by simp; omega
  unfold setL part
  rw [List.take_append_of_le_length (by omega), List.take_of_length_le (by omega), List.take_succ_eq_append_getElem hq, hy, List.append_assoc, List.append_assoc]
  congr 2
  rw [List.drop_append, List.drop_of_length_le (by simp; omega)]
  simp
  omega
theorem w26 {h : List AO} {ds : List Decl} {K : ARes → List AO → Prop} (hl : ds.length < 2199023255552) (hok : ∀ d ∈ ds, d.ok) (k : K (.ok (.rsl ((itF ds ds.length).map .bool))) h) : W 26 [.rsl (ds.map Decl.av)] h K := by
  refine W_of mixed c26 (by simp [A26]) ?_
  have hb1 : (ds.length : Int) ≤ 281474976710656 := by omega
  have hb2 : (ds.length : Int) < 9223372036854775808 := by omega
  simp [A26, hb1, hb2]
  refine lp_ind' (ι := Nat) (fun n => n ≤ ds.length) (fun n => ds.length - n) (fun n => [(0, .rsl (ds.map Decl.av)), (3, .msl (h.length + n) 0 ds.length ds.length), (4, .int .i64 (n : Int))]) (fun n => h ++ rows ds n) ?_ 0 (by omega) (by simp) (by simp [rows, itF])
  intro n hn ih
  have hw : IntKind.i64.wrap ((n : Int) + 1) = ((n + 1 : Nat) : Int) := by rw [wrap_i64 _ (by omega) (by omega)]; omega
  by_cases hlt : n < ds.length
  · simp [A26_l1, hlt, hb1, hb2, rows_len]
    refine lp_ind' (ι := Nat) (fun q => q ≤ ds.length) (fun q => ds.length - q)
      (fun q => [(0, .rsl (ds.map Decl.av)), (3, .msl (h.length + n) 0 ds.length ds.length), (4, .int .i64 (n : Int)), (5, .msl (h.length + (n + 1)) 0 ds.length ds.length), (6, .int .i64 (q : Int))])
      (fun q => h ++ (rows ds n ++ [.box (part ((rndM ds (itF ds n)).map .bool) q (.bool false))])) ?_ 0 (by omega) (by simp) (by simp [part, rndM])
    intro q hq ihq
    have hwq : IntKind.i64.wrap ((q : Int) + 1) = ((q + 1 : Nat) : Int) := by rw [wrap_i64 _ (by omega) (by omega)]; omega
    by_cases hql : q < ds.length
    · have hlen : ((rndM ds (itF ds n)).map AV.bool).length = ds.length := by simp [rndM]
      have hp := part_len ((rndM ds (itF ds n)).map AV.bool) q (.bool false) (by omega)
      rw [hlen] at hp
      have hset := part_set ((rndM ds (itF ds n)).map AV.bool) q (.bool false) (.bool (oneM ds (itF ds n) ds[q])) (by omega) (by simp [rndM])
      simp only [setL] at hset
      simp at hset
      simp [A26_l0, hql, Decl.av]
      refine w44' (bs := itF ds n) (itF_len ds n).symm hl ?_ (itF_len ds n) (hok _ (List.getElem_mem hql)) ?_
      · rw [get_app, rows_get]
      · have hq1 : q + 1 ≤ ds.length := by omega
        simp [hql, rows_next, rows_set, hp, hq1, hwq]
        have IH := ihq (q + 1) (by omega) (by omega)
        rw [hset]
        exact IH
    · have : q = ds.length := by omega
      subst this
      have IH := ih (n + 1) (by omega) (by omega)
      have hpl : part ((rndM ds (itF ds n)).map .bool) ds.length (.bool false) = (itF ds (n + 1)).map .bool := by
        have hlen : ((rndM ds (itF ds n)).map AV.bool).length = ds.length := by simp [rndM]
        unfold part
        rw [List.take_of_length_le (by omega), hlen, Nat.sub_self]
        simp [itF]
      rw [rows_succ] at IH
      rw [hpl]
      simp [A26_l0, A26_r0, A26_r1, hw]
      exact IH
  · have : n = ds.length := by omega
    subst this
    simp [A26_l1, A26_r2]
    refine .inr ⟨h.length, 3, .rsl ((itF ds ds.length).map .bool), DropOk.app h _, ?_, by rw [List.take_left]; exact k⟩
    have hg : (h ++ rows ds ds.length)[h.length + ds.length]? = some (.box ((itF ds ds.length).map .bool)) := by
      have := rows_get ds ds.length []
      simp at this
      rw [get_app]; exact this
    have hlen := itF_len ds ds.length
    simp [out, frz, hg, hlen, packR]
    have hm := mapO_bools h.length (h ++ rows ds ds.length) 0 (itF ds ds.length)
    rw [List.take_of_length_le (by simp [hlen])]
    simp [hm]
end Go.Proofs.Ytjljhmeadfejhaa
