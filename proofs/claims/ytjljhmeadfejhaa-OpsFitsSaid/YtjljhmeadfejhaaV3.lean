/- Operations: Fits, walked. -/
import Derived.Test.YtjljhmeadfejhaaV2
import Derived.Test.YtjljhmeadfejhaaME4
set_option maxRecDepth 100000
set_option linter.unusedVariables false
set_option linter.unusedSimpArgs false
namespace Go.Proofs.Ytjljhmeadfejhaa
open Go.Eng
def fldsOf (ds : List Decl) (s : ByteArray) : List Fld := match fnd s ds with
  | none => []
  | some n => (ds[n]?.map Decl.fields).getD []
def fitsR (ds : List Decl) (m : Mth) (op : Int) : Int :=
  if isOp op = false then 4 else if ¬ kindR m.inn ds = 1 ∨ ¬ kindR m.out ds = 1 then 6 else if begR (fldsOf ds m.inn) (opIn op) && begR (fldsOf ds m.out) (opOut op) then 0 else 8
theorem Dsc.lt {h : List AO} {di : Nat} {ds : List Decl} (D : Dsc h di ds) : di < h.length := by
  rcases D with D | ⟨b, u, s, sm, hd, _, ti, j, y, em, mi, es, _, _, _, b1, _⟩
  · exact (List.getElem?_eq_some_iff.1 D).1
  · exact (List.getElem?_eq_some_iff.1 b1).1
theorem Dsc.box {h : List AO} {di : Nat} {ds : List Decl} (D : Dsc h di ds) : ∃ cs, h[di]? = some (.box cs) := by
  rcases D with D | ⟨b, u, s, sm, hd, _, ti, j, y, em, mi, es, _, _, _, b1, _⟩
  · exact ⟨_, D⟩
  · exact ⟨_, b1⟩
theorem beg_of {ds : List Decl} (hc : (checkM ds).1 = 0) {s : ByteArray} (hk : kindR s ds = 1) {l : List Fld} (hl : RowsOf ds s l) {ts : List Ty} (hp : ∀ u ∈ ts, Plain u) : begP 0 l ts = begR (fldsOf ds s) ts := by
  obtain ⟨n, d, h1, h2, h3, h4⟩ := struct_of hc hk
  simp only [RowsOf, h1] at hl
  obtain ⟨d', q1, q2, q3⟩ := hl
  rw [h2] at q1
  injection q1 with q1
  subst q1
  simp only [fldsOf, h1, h2, Option.map_some, Option.getD_some]
  exact beg_law hp h3 h4 q2 q3
theorem opIn_len (op : Int) : (opIn op).length < 1000 := by
  unfold opIn
  repeat' split
  all_goals simp
theorem opOut_len (op : Int) : (opOut op).length < 1000 := by
  unfold opOut
  repeat' split
  all_goals simp
theorem w40 {h : List AO} {di : Nat} {ds : List Decl} {m : Mth} {op : Int} (t : Told ds) (hc : (checkM ds).1 = 0) (D : Dsc h di ds) {K : ARes → List AO → Prop}
    (k : ∀ H', h.length ≤ H'.length → (∀ j, j < h.length → j ≠ di → H'[j]? = h[j]?) → (∃ cs, H'[di]? = some (.box cs)) → K (.ok (.int .i64 (fitsR ds m op))) H') : W 40 [.ptr di 0, m.av, .int .i64 op] h K := by
  have hdi := D.lt
  obtain ⟨bx, hbx⟩ : ∃ bx, bx = AO.box [.int .i64 m.tag, .str m.name, .str m.inn, .str m.out, .bool m.oneWay] := ⟨_, rfl⟩
  have D1 : Dsc (h ++ [bx]) di ds := D.app _
  have fin0 : ∀ (H' : List AO) (n : Int), Dsc H' di ds → h.length + 1 ≤ H'.length → (∀ j, j < h.length + 1 → j ≠ di → H'[j]? = (h ++ [bx])[j]?) → fitsR ds m op = n → K (.ok (.int .i64 n)) H' := by
    intro H' n R hl old e
    rw [← e]
    exact k H' (by omega) (fun j hj hj' => by rw [old j (by omega) hj', List.getElem?_append_left hj]) R.box
  have fin : ∀ (H' : List AO) (n : Int), ReadyD H' di ds → h.length + 1 ≤ H'.length → (∀ j, j < h.length + 1 → j ≠ di → H'[j]? = (h ++ [bx])[j]?) → fitsR ds m op = n → K (.ok (.int .i64 n)) H' :=
    fun H' n R => fin0 H' n (.inr R)
  have rd : ∀ (H' : List AO), (∀ j, j < h.length + 1 → j ≠ di → H'[j]? = (h ++ [bx])[j]?) → H'[h.length]? = some bx := by
    intro H' old
    rw [old _ (by omega) (by omega)]; simp
  refine W_of mixed c40 (by simp [A40]) ?_
  simp [A40, Mth.av]
  refine w54 ?_
  simp
  refine w35 ?_
  rw [← hbx]
  cases ho : isOp op with
  | false =>
    have e : fitsR ds m op = 4 := by simp [fitsR, ho]
    simp
    exact .inl (fin0 _ _ D1 (by simp) (fun _ _ _ => rfl) e)
  | true =>
    simp
    have r0 := rd (h ++ [bx]) (fun _ _ _ => rfl)
    rw [hbx] at r0
    rw [hbx]
    simp [r0]
    rw [← hbx]
    refine wDKind t D1 (fun H1 R1 l1 o1 => ?_)
    simp only [List.length_append, List.length_cons, List.length_nil] at l1 o1
    have r1 := rd H1 o1
    rw [hbx] at r1
    by_cases k1 : kindR m.inn ds = 1
    · simp [k1, r1]
      refine wDKind t (.inr R1) (fun H2 R2 l2 o2 => ?_)
      have o2' : ∀ j, j < h.length + 1 → j ≠ di → H2[j]? = (h ++ [bx])[j]? := fun j hj hj' => (o2 j (by omega) hj').trans (o1 j hj hj')
      have r2 := rd H2 o2'
      rw [hbx] at r2
      by_cases k2 : kindR m.out ds = 1
      · simp [k2, r2]
        refine w59 t (.inr R2) (opIn_plain op) (opIn_len op) (fun la H3 ra R3 l3 o3 => ?_)
        have o3' : ∀ j, j < h.length + 1 → j ≠ di → H3[j]? = (h ++ [bx])[j]? := fun j hj hj' => (o3 j (by omega) hj').trans (o2' j hj hj')
        have r3 := rd H3 o3'
        rw [hbx] at r3
        rw [beg_of hc k1 ra (opIn_plain op)]
        cases b1 : begR (fldsOf ds m.inn) (opIn op) with
        | false =>
          have e : fitsR ds m op = 8 := by simp [fitsR, ho, k1, k2, b1]
          simp
          exact .inl (fin _ _ R3 (by omega) o3' e)
        | true =>
          simp [r3]
          refine w59 t (.inr R3) (opOut_plain op) (opOut_len op) (fun lb H4 rb R4 l4 o4 => ?_)
          have o4' : ∀ j, j < h.length + 1 → j ≠ di → H4[j]? = (h ++ [bx])[j]? := fun j hj hj' => (o4 j (by omega) hj').trans (o3' j hj hj')
          rw [beg_of hc k2 rb (opOut_plain op)]
          cases b2 : begR (fldsOf ds m.out) (opOut op) with
          | false =>
            have e : fitsR ds m op = 8 := by simp [fitsR, ho, k1, k2, b1, b2]
            simp
            exact .inl (fin _ _ R4 (by omega) o4' e)
          | true =>
            have e : fitsR ds m op = 0 := by simp [fitsR, ho, k1, k2, b1, b2]
            simp
            exact .inl (fin _ _ R4 (by omega) o4' e)
      · have e : fitsR ds m op = 6 := by simp [fitsR, ho, k1, k2]
        simp [k2]
        exact .inl (fin _ _ R2 (by omega) o2' e)
    · have e : fitsR ds m op = 6 := by simp [fitsR, ho, k1]
      simp [k1]
      exact .inl (fin _ _ R1 (by omega) o1 e)
theorem w40N {h : List AO} {m : Mth} {op : Int} {K : ARes → List AO → Prop} (k : K (.ok (.int .i64 (fitsR [] m op))) h) : W 40 [.nilp, m.av, .int .i64 op] h K := by
  have kn : ∀ s, kindR s [] = 0 := fun s => rfl
  refine W_of mixed c40 (by simp [A40]) ?_
  simp [A40, Mth.av]
  refine w54 ?_
  simp
  refine w35 ?_
  cases ho : isOp op with
  | false =>
    have e : fitsR [] m op = 4 := by simp [fitsR, ho]
    rw [e] at k
    simp
    exact ret_pure (by simp) k
  | true =>
    have e : fitsR [] m op = 6 := by simp [fitsR, ho, kn]
    rw [e] at k
    simp
    refine wDKindN ?_
    simp
    exact ret_pure (by simp) k
end Go.Proofs.Ytjljhmeadfejhaa
