/- The engine, part 6: plain operations, on. -/
import Derived.Test.YtjljhmeadfejhaaE5
set_option linter.unusedVariables false
set_option linter.unusedSimpArgs false
namespace Go.Eng
section
variable {P : Program} {o : Oper} {a : Act} {h : List AO} {φ : Nat → Loc} {w : World} {S : Nat → Nat → Prop} {f : Fr} {x : AV} {h' : List AO}

/-- A new block that nobody writes any more. -/
def withBlk (S : Nat → Nat → Prop) (b : Nat) : Nat → Nat → Prop := fun x y => S x y ∨ x = b
theorem sim_ro (M : Sim h φ w S) (b : Obj) : Sim h φ (w.alloc b) (withBlk S w.heap.size) ∧ Ext h φ w S h φ (w.alloc b) (withBlk S w.heap.size) := by
  have hh : ∀ k, k < w.heap.size → (w.alloc b).heap[k]? = w.heap[k]? := fun k hk => by show (w.heap.push b)[k]? = _; rw [Array.getElem?_push, if_neg (by omega)]
  have E : Ext h φ w S h φ (w.alloc b) (withBlk S w.heap.size) :=
    { len := Nat.le_refl _
      stab := fun _ _ k => .inl k
      cell := fun x y hs => World.cell?_of_block (hh x (M.stab _ _ hs))
      same := fun i hi => ⟨hi, rfl⟩
      tok := fun i e sz n hn _ => .inl ⟨hn, rfl⟩
      live := fun i o ho hd => .inl ⟨o, ho, hd, rfl⟩
      frame := fun k hk _ => hh k hk
      os := rfl
      tape := rfl
      output := rfl
      size := by simp
      news := fun b o k => by
        rcases k with k | k
        · exact .inl k
        · exact .inr (.inl (by omega)) }
  refine ⟨⟨fun i o ho => ?_, M.inj, fun x y hs => ?_⟩, E⟩
  · have r := M.obj i o ho
    cases hd : o.isDead with
    | true => cases o <;> first | trivial | cases hd
    | false =>
      have hl := r.lt hd
      exact r.mono E (hh _ hl) (fun j hj => by
        rcases hj with hj | hj
        · exact hj
        · omega)
  · rcases hs with hs | hs
    · exact Nat.lt_of_lt_of_le (M.stab _ _ hs) (by simp)
    · simp [hs]

theorem fill_lit (sz : Nat) (hz : 0 < sz) (places : Nat → Option (Nat × Nat)) (hp : ∀ i, places i = some (i * sz, sz)) : ∀ (vs : List Value) (j : Nat) (arr : Array Value), (j + vs.length) * sz ≤ arr.size → (∀ v ∈ vs, v.cells.size = sz) →
    ∃ out : Array Value, Instr.fill places arr ((vs.zipIdx j).map fun p => (p.2, p.1)) = some out ∧ out.size = arr.size ∧ (∀ (i k : Nat) (v : Value), vs[i]? = some v → k < sz → out[(j + i) * sz + k]? = v.cells[k]?) ∧ ∀ idx, idx < j * sz → out[idx]? = arr[idx]?
  | [], j, arr, _, _ => ⟨arr, rfl, rfl, fun i k v hv => by simp at hv, fun _ _ => rfl⟩
  | v :: vs, j, arr, hl, hv => by
    have hv0 := hv v (by simp)
    have e1 : (j + (vs.length + 1)) * sz = j * sz + (vs.length + 1) * sz := Nat.add_mul _ _ _
    have e2 : (vs.length + 1) * sz = vs.length * sz + sz := Nat.succ_mul _ _
    have hfit : j * sz + sz ≤ arr.size := by simp only [List.length_cons] at hl; omega
    simp only [List.zipIdx_cons, List.map_cons, Instr.fill, hp]
    rw [if_neg (by simp [hv0]; omega)]
    have hfold : (v.cells.zipIdx.foldl (fun cs (p : Value × Nat) => cs.setIfInBounds (j * sz + p.2) p.1) arr) = (arr.toList.take (j * sz) ++ v.cells.toList ++ arr.toList.drop (j * sz + v.cells.toList.length)).toArray := by
      apply Array.ext'
      rw [← Array.foldl_toList, Array.toList_zipIdx]
      have := foldl_set arr (j * sz) v.cells.toList 0 (by simp; omega)
      simpa using this
    rw [hfold]
    have hsize : (arr.toList.take (j * sz) ++ v.cells.toList ++ arr.toList.drop (j * sz + v.cells.toList.length)).toArray.size = arr.size := by simp [hv0]; omega
    obtain ⟨out, k1, k2, k3, k4⟩ := fill_lit sz hz places hp vs (j + 1) _ (by rw [hsize]; simp only [List.length_cons] at hl; rw [show j + 1 + vs.length = j + (vs.length + 1) by omega]; exact hl) (fun u hu => hv u (by simp [hu]))
    have e3 : (j + 1) * sz = j * sz + sz := Nat.succ_mul _ _
    refine ⟨out, k1, k2.trans hsize, fun i k u hu hk => ?_, fun idx hi => ?_⟩
    · cases i with
      | zero =>
        simp at hu
        subst hu
        rw [Nat.add_zero, k4 _ (by omega)]
        simp only [List.getElem?_toArray, List.getElem?_append, List.length_append, List.length_take, Array.length_toList, List.getElem?_take]
        have e4 : min (j * sz) arr.size = j * sz := by omega
        rw [e4]
        simp [hv0, show j * sz + k < j * sz + sz by omega]
        intro hbad; omega
      | succ i =>
        have := k3 i k u (by simpa using hu) hk
        rw [show j + (i + 1) = j + 1 + i by omega]
        exact this
    · rw [k4 idx (by omega)]
      simp only [List.getElem?_toArray, List.getElem?_append, List.length_append, List.length_take, Array.length_toList, List.getElem?_take]
      have e4 : min (j * sz) arr.size = j * sz := by omega
      rw [e4]
      simp [hi, show idx < j * sz + v.cells.size by omega]

theorem cLit_spec : ∀ (ps : List (Nat × Operand)) (j : Nat) (l : List Opnd), cLit j ps = some l → ps.map (·.1) = List.range' j ps.length ∧ l.length = ps.length ∧ ∀ (i : Nat) (p : Opnd), l[i]? = some p → ∃ q, ps[i]? = some q ∧ cO q.2 = some p
  | [], j, l, e => by
    injection e with e
    subst e
    exact ⟨rfl, rfl, fun i p hp => by simp at hp⟩
  | (i, x) :: ps, j, l, e => by
    simp only [cLit] at e
    split at e
    case isFalse => cases e
    rename_i hij
    subst hij
    simp only [Option.bind_eq_some_iff, Option.map_eq_some_iff] at e
    obtain ⟨y, hy, ys, hys, rfl⟩ := e
    obtain ⟨k1, k2, k3⟩ := cLit_spec ps (i + 1) ys hys
    refine ⟨by simp [k1, List.range'_succ], by simp [k2], fun n p hp => ?_⟩
    cases n with
    | zero => simp at hp; subst hp; exact ⟨_, rfl, hy⟩
    | succ n => exact k3 n p (by simpa using hp)

theorem all_cells {es : List AV} {sz : Nat} (h : es.all (fun y => decide (y.cells.length = sz) && y.cells.all AV.one) = true) : ∀ y ∈ es, y.cells.length = sz ∧ y.cells.all AV.one = true := by
  intro y hy
  have := List.all_eq_true.1 h y hy
  simp only [Bool.and_eq_true, decide_eq_true_eq] at this
  exact this

theorem fine_lit (M : Sim h φ w S) (F : FRel h φ w S f a) {t e : TypeId} {n sz : Nat} {ps : Array (Nat × Operand)} {l : List Opnd} {zs : List AV} (ho : o.op = .buildSlice t n ps) (hu : P.underlying t = some (.slice e)) (hsz : szOf P e = some sz)
    (hl : cLit 0 ps.toList = some l) (hz : zeroL P e = some zs) (hn : l.length = n ∧ n * sz ≤ 16777216) (he : evP f h (.lit sz l) = some (x, h')) : Fine P o a h φ w S x h' := by
  obtain ⟨ti, hti, htsz⟩ : ∃ ti, P.info? e = some ti ∧ ti.size = sz := by
    cases hi : P.info? e with
    | none => simp [szOf, hi] at hsz
    | some ti => exact ⟨ti, rfl, by simpa [szOf, hi] using hsz⟩
  obtain ⟨c1, c2, c3⟩ := cLit_spec _ _ _ hl
  have hzero : ∃ zv, ti.zero = some zv := by
    unfold zeroL at hz
    rw [hti] at hz
    simp only at hz
    split at hz
    · exact ⟨_, by assumption⟩
    · cases hz
  obtain ⟨zv, hzv⟩ := hzero
  cases l with
  | nil =>
    simp only [evP] at he
    injection he with he; injection he with h1 h2; subst h1 h2
    obtain rfl : n = 0 := by simpa using hn.1.symm
    have hps : ps.toList = [] := List.eq_nil_of_length_eq_zero (by simpa using c2.symm)
    obtain ⟨s1, s2⟩ := sim_ro M (.cells #[] e)
    refine ⟨_, _, _, _, .inl ?_, s1, s2, .esl _ (some ⟨w.heap.size, 0, none⟩)⟩
    simp [execOp, ho, Instr.buildSlice, run_underlying hu, Go.sizeOf, typeInfo, hti, Array.toList_map, hps, Instr.fill, newRow]
    congr 2
    exact Array.eq_empty_of_size_eq_zero (by simp)
  | cons p0 l0 =>
    generalize hL : p0 :: l0 = L at *
    have hev : evP f h (.lit sz L) = match roL (L.map (ev f)) with
      | some es => if 0 < sz ∧ es.all (fun y => decide (y.cells.length = sz) && y.cells.all AV.one) then some (.rsl es, h) else none
      | none => none := by rw [← hL]; rfl
    rw [hev] at he
    clear hev
    split at he
    case h_2 => cases he
    rename_i es hes
    split at he
    case isFalse => cases he
    rename_i hc
    obtain ⟨hz0, hall⟩ := hc
    injection he with he; injection he with h1 h2; subst h1 h2
    obtain ⟨r1, r2⟩ := roL_get hes
    have hall' := all_cells hall
    -- the parts, in the model
    let vs : List Value := ps.toList.map fun p => a.eval p.2
    have hvs : ∀ (i : Nat) (y : AV), es[i]? = some y → ∃ v, vs[i]? = some v ∧ Rel h φ w S false y v := by
      intro i y hy
      obtain ⟨x0, hx0, hro⟩ := r2 i y hy
      rw [List.getElem?_map] at hx0
      obtain ⟨p, hp, rfl⟩ := Option.map_eq_some_iff.1 hx0
      obtain ⟨q, hq, hcq⟩ := c3 i p hp
      exact ⟨a.eval q.2, by simp [vs, hq], ro_rel (rel_ev F hcq) y hro⟩
    have hlen : es.length = vs.length := by simp [vs, r1, c2]
    have hvn : vs.length = n := by have h1 := hn.1; simp only [vs, List.length_map]; omega
    have hsizes : ∀ v ∈ vs, v.cells.size = sz := by
      intro v hv
      obtain ⟨i, hi⟩ := List.getElem?_of_mem hv
      have hlt : i < es.length := by rw [hlen]; exact (List.getElem?_eq_some_iff.1 hi).1
      obtain ⟨v', hv', rv⟩ := hvs i _ (List.getElem?_eq_getElem hlt)
      rw [hi] at hv'
      injection hv' with hv'
      subst hv'
      obtain ⟨k1, _⟩ := cells_rel rv (hall' _ (List.getElem_mem hlt)).2
      rw [← k1]
      exact (hall' _ (List.getElem_mem hlt)).1
    have hparts : (ps.map fun p => (p.1, a.eval p.2)).toList = (vs.zipIdx 0).map fun p => (p.2, p.1) := by
      apply List.ext_getElem?
      intro i
      simp only [Array.toList_map, List.getElem?_map, List.getElem?_zipIdx, vs]
      cases hi : ps.toList[i]? with
      | none => simp [hi]
      | some p =>
        have := congrArg (fun l => l[i]?) c1
        simp only [List.getElem?_map, hi, Option.map_some] at this
        have hlt : i < ps.toList.length := (List.getElem?_eq_some_iff.1 hi).1
        rw [List.getElem?_range' (by simpa using hlt)] at this
        simp at this
        simp [hi, this]
    have hne : n * sz ≠ 0 := by
      have : 0 < n := by have := hn.1; rw [← hL] at this; simp at this; omega
      exact Nat.ne_of_gt (Nat.mul_pos this hz0)
    obtain ⟨out, f1, f2, f3, _⟩ := fill_lit sz hz0 (fun i => some (i * sz, sz)) (fun _ => rfl) vs 0 ((Array.range (n * sz)).map (zv.cells[· % zv.cells.size]!)) (by simp [hvn]) hsizes
    obtain ⟨s1, s2⟩ := sim_ro M (.cells out e)
    have hkey : ∀ (i j : Nat) (y z : AV), es[i]? = some y → y.cells[j]? = some z → j < sz ∧ ∃ u, out[i * sz + j]? = some u ∧ Rel h φ w S false z u ∧ z.one = true := by
      intro i j y z hy hz
      obtain ⟨v, hv, rv⟩ := hvs i y hy
      have hm := hall' y (List.mem_of_getElem? hy)
      obtain ⟨k1, k2, k3, k4⟩ := cells_rel rv hm.2
      have hj : j < sz := by rw [← hm.1]; exact (List.getElem?_eq_some_iff.1 hz).1
      have hlt : j < v.cells.size := by omega
      refine ⟨hj, v.cells[j], ?_, k4 j z _ hz (by simp [hlt]), k2 j z hz⟩
      have := f3 i j v hv hj
      rw [Nat.zero_add] at this
      rw [this]
      simp [hlt]
    refine ⟨.slice (some ⟨w.heap.size, 0, none⟩) es.length n, _, _, _, .inl ?_, s1, s2, ?_⟩
    · have hn2 : ¬ n * sz > 16777216 := by omega
      simp only [execOp, ho, Instr.buildSlice, Sem.run_bind, run_underlying hu, Go.sizeOf, typeInfo, run_program, Result.andThen_ok, hti, Sem.run_pure, htsz]
      rw [if_neg (by simpa using hn2)]
      simp only [hne, if_false, zeroValue, typeInfo, Sem.run_bind, run_program, Result.andThen_ok, hti, Sem.run_pure, hzv, hparts, f1, newRow, run_newObj, World.alloc_eq, hlen, hvn]
    · refine Rel.rsl true es (some ⟨w.heap.size, 0, none⟩) n sz (fun i j => (out[i * sz + j]?).getD undef) (by omega) hz0 (fun y hy => (hall' y hy).1) (fun i j y z hy hz => ?_) (fun i j y z hy hz => ?_)
      · obtain ⟨k1, u, k2, k3, k4⟩ := hkey i j y z hy hz
        refine ⟨_, rfl, k4, ?_, .inr rfl⟩
        rw [Addr.add_lit, Nat.zero_add, World.cell?_alloc_new, k2]
        rfl
      · obtain ⟨k1, u, k2, k3, k4⟩ := hkey i j y z hy hz
        rw [k2]
        exact k3.mono s2
end
end Go.Eng
