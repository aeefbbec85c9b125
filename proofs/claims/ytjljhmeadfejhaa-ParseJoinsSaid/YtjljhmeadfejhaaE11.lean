/- The engine, part 11: append. -/
import Derived.Test.YtjljhmeadfejhaaE10
set_option linter.unusedVariables false
set_option linter.unusedSimpArgs false
namespace Go.Eng
section
variable {P : Program} {o : Oper} {a : Act} {h : List AO} {φ : Nat → Loc} {w : World} {S : Nat → Nat → Prop} {f : Fr} {x : AV} {h' : List AO}

/-- The cells of a row's elements, one behind the other. -/
def Vals (h : List AO) (φ : Nat → Loc) (w : World) (S : Nat → Nat → Prop) (sz : Nat) (es : List AV) (vals : List Value) : Prop :=
  vals.length = es.length * sz ∧ (∀ u ∈ vals, u.oneCell' = true) ∧ ∀ (i j : Nat) (x y : AV), es[i]? = some x → x.cells[j]? = some y → ∃ u, vals[i * sz + j]? = some u ∧ Rel h φ w S false y u ∧ y.one = true

theorem Vals.append {sz : Nat} {es es' : List AV} {vs vs' : List Value} (h1 : Vals h φ w S sz es vs) (h2 : Vals h φ w S sz es' vs') (hs : ∀ x ∈ es, x.cells.length = sz) : Vals h φ w S sz (es ++ es') (vs ++ vs') := by
  refine ⟨by simp [h1.1, h2.1, Nat.add_mul], fun u hu => ?_, fun i j x y hx hy => ?_⟩
  · rcases List.mem_append.1 hu with hu | hu
    · exact h1.2.1 u hu
    · exact h2.2.1 u hu
  · rw [List.getElem?_append] at hx
    split at hx
    · rename_i hlt
      obtain ⟨u, k1, k2⟩ := h1.2.2 i j x y hx hy
      refine ⟨u, ?_, k2⟩
      rw [List.getElem?_append_left (List.getElem?_eq_some_iff.1 k1).1]
      exact k1
    · rename_i hge
      obtain ⟨u, k1, k2⟩ := h2.2.2 _ j x y hx hy
      refine ⟨u, ?_, k2⟩
      have e : i * sz + j = es.length * sz + ((i - es.length) * sz + j) := by
        rw [Nat.sub_mul]
        have : es.length * sz ≤ i * sz := Nat.mul_le_mul_right _ (by omega)
        omega
      rw [e, List.getElem?_append_right (by rw [h1.1]; omega), h1.1, Nat.add_sub_cancel_left]
      exact k1
theorem Vals.mono {h1 : List AO} {φ1 : Nat → Loc} {w1 : World} {S1 : Nat → Nat → Prop} {sz : Nat} {es : List AV} {vs : List Value} (V : Vals h φ w S sz es vs) (E : Ext h φ w S h1 φ1 w1 S1) : Vals h1 φ1 w1 S1 sz es vs :=
  ⟨V.1, V.2.1, fun i j x y hx hy => let ⟨u, k1, k2, k3⟩ := V.2.2 i j x y hx hy; ⟨u, k1, k2.mono E, k3⟩⟩

theorem row_vals {m : Bool} {es : List AV} {v : Value} {sz : Nat} (r : Rel h φ w S m (.rsl es) v) (hz : 0 < sz) (hs : ∀ x ∈ es, x.cells.length = sz) :
    ∃ A c vals, v = .slice A es.length c ∧ es.length ≤ c ∧ Vals h φ w S sz es vals ∧ (∀ ad, A = some ad → ∀ (j : Nat) u, vals[j]? = some u → w.cell? (ad.add j) = some u ∧ S ad.block (ad.off + j)) ∧ (es ≠ [] → ∃ ad, A = some ad) := by
  cases r with
  | rsl _ _ A c sz' g hl hz' hs' hc hr =>
    by_cases he : es = []
    · subst he
      exact ⟨A, c, [], rfl, hl, ⟨by simp, fun u hu => by simp at hu, fun i j x y hx => by simp at hx⟩, fun ad _ j u hu => by simp at hu, fun hne => absurd rfl hne⟩
    · have hsz : sz' = sz := by
        cases es with
        | nil => exact absurd rfl he
        | cons x es => rw [← hs' x (by simp), ← hs x (by simp)]
      subst hsz
      have hkey : ∀ (k : Nat), k < es.length * sz' → ∃ x y, es[k / sz']? = some x ∧ x.cells[k % sz']? = some y := by
        intro k hk
        have h1 : k / sz' < es.length := (Nat.div_lt_iff_lt_mul hz).2 hk
        have h2 : k % sz' < sz' := Nat.mod_lt _ hz
        refine ⟨es[k / sz'], _, List.getElem?_eq_getElem h1, List.getElem?_eq_getElem (i := k % sz') (by rw [hs _ (List.getElem_mem h1)]; exact h2)⟩
      have hpos : 0 < es.length := List.length_pos_iff.2 he
      obtain ⟨x0, y0, hx0, hy0⟩ := hkey 0 (Nat.mul_pos hpos hz)
      obtain ⟨ad, hA, _⟩ := hc _ _ x0 y0 hx0 hy0
      have hdm : ∀ k : Nat, k / sz' * sz' + k % sz' = k := fun k => by rw [Nat.mul_comm]; exact Nat.div_add_mod k sz'
      refine ⟨A, c, (List.range (es.length * sz')).map (fun k => g (k / sz') (k % sz')), rfl, hl, ⟨by simp, fun u hu => ?_, fun i j x y hx hy => ?_⟩, fun ad' hA' j u hu => ?_, fun _ => ⟨ad, hA⟩⟩
      · obtain ⟨k, hk, rfl⟩ := List.mem_map.1 hu
        obtain ⟨x, y, hx, hy⟩ := hkey k (List.mem_range.1 hk)
        obtain ⟨_, _, h1, _, _⟩ := hc _ _ x y hx hy
        exact (one_rel (hr _ _ x y hx hy) h1).1
      · have hi : i < es.length := (List.getElem?_eq_some_iff.1 hx).1
        have hj : j < sz' := by rw [← hs x (List.mem_of_getElem? hx)]; exact (List.getElem?_eq_some_iff.1 hy).1
        have e1 : (i * sz' + j) / sz' = i := by rw [Nat.mul_comm, Nat.mul_add_div hz, Nat.div_eq_of_lt hj, Nat.add_zero]
        have e2 : (i * sz' + j) % sz' = j := by rw [Nat.mul_comm, Nat.mul_add_mod, Nat.mod_eq_of_lt hj]
        have hlt : i * sz' + j < es.length * sz' := by
          have : (i + 1) * sz' ≤ es.length * sz' := Nat.mul_le_mul_right _ hi
          rw [Nat.succ_mul] at this
          omega
        obtain ⟨_, _, h1, _, _⟩ := hc i j x y hx hy
        refine ⟨g i j, ?_, hr i j x y hx hy, h1⟩
        rw [List.getElem?_map, List.getElem?_range hlt]
        simp [e1, e2]
      · rw [List.getElem?_map] at hu
        obtain ⟨k, hk, rfl⟩ := Option.map_eq_some_iff.1 hu
        have hj : j < es.length * sz' := by
          have := (List.getElem?_eq_some_iff.1 hk).1
          simpa using this
        rw [List.getElem?_range hj] at hk
        injection hk with hk
        subst hk
        obtain ⟨x, y, hx, hy⟩ := hkey j hj
        obtain ⟨ad2, hA2, h1, h2, h3⟩ := hc _ _ x y hx hy
        rw [hA'] at hA2
        injection hA2 with hA2
        subst hA2
        rw [hdm] at h2 h3
        exact ⟨h2, h3⟩

theorem row_rel {es : List AV} {vals : List Value} {sz g c : Nat} {cur : Array Value} {T : TypeId} {fr : Nat × Nat} (V : Vals h φ w S sz es vals) (hz : 0 < sz) (hs : ∀ x ∈ es, x.cells.length = sz) (hl : es.length ≤ c)
    (hg : w.heap[g]? = some (.cells cur T fr)) (ht : cur.toList.take (es.length * sz) = vals) (hS : ∀ j, j < es.length * sz → S g j) (m : Bool) : Rel h φ w S m (.rsl es) (.slice (some ⟨g, 0, none⟩) es.length c) := by
  refine .rsl m es _ c sz (fun i j => (vals[i * sz + j]?).getD undef) hl hz hs (fun i j x y hx hy => ?_) (fun i j x y hx hy => ?_)
  · obtain ⟨u, k1, k2, k3⟩ := V.2.2 i j x y hx hy
    have hlt : i * sz + j < es.length * sz := by rw [← V.1]; exact (List.getElem?_eq_some_iff.1 k1).1
    refine ⟨_, rfl, k3, ?_, ?_⟩
    · rw [Addr.add_lit, Nat.zero_add, k1]
      have : cur.toList[i * sz + j]? = some u := by
        rw [← ht, List.getElem?_take] at k1
        simpa [hlt] using k1
      simp only [World.cell?, hg]
      simpa using this
    · simpa using hS _ hlt
  · obtain ⟨u, k1, k2, k3⟩ := V.2.2 i j x y hx hy
    rw [k1]
    exact k2

/-- A row that is appended to, in a new block. -/
theorem sim_newrow (M : Sim h φ w S) {es : List AV} {vals : List Value} {e : TypeId} {sz c : Nat} (V : Vals h φ w S sz es vals) (hz : 0 < sz) (hs : ∀ x ∈ es, x.cells.length = sz) (hl : es.length ≤ c) (hc : c ≤ maxLen) {cur : Array Value}
    (hcur : cur.size = c * sz) (ht : cur.toList.take (es.length * sz) = vals) {w0 : World} (hw0 : w0.heap = w.heap) (h1 : w0.os = w.os) (h2 : w0.tape = w.tape) (h3 : w0.output = w.output) {i0 : Nat} {h' : List AO} (hat : h'[i0]? = some (.tok e sz es.length)) (hoth : ∀ i, i ≠ i0 → h'[i]? = h[i]?) (hlen : h.length ≤ h'.length)
    (htok : i0 < h.length → ∃ e0 sz0 n0, h[i0]? = some (.tok e0 sz0 n0) ∧ n0 < es.length) :
    ∃ φ' S', Sim h' φ' (w0.alloc (.cells cur e)) S' ∧ Ext h φ w S h' φ' (w0.alloc (.cells cur e)) S' ∧ Rel h' φ' (w0.alloc (.cells cur e)) S' true (.osl i0 es) (.slice (some ⟨w.heap.size, 0, none⟩) es.length c) := by
  let φ' := updφ φ i0 ⟨w.heap.size, c⟩
  let S' : Nat → Nat → Prop := fun b o => S b o ∨ (b = w.heap.size ∧ o < es.length * sz)
  have hh : ∀ k, k < w.heap.size → (w0.alloc (.cells cur e)).heap[k]? = w.heap[k]? := fun k hk => by show (w0.heap.push _)[k]? = _; rw [hw0, Array.getElem?_push, if_neg (by omega)]
  have hnew : (w0.alloc (.cells cur e)).heap[w.heap.size]? = some (.cells cur e (0, 0)) := by show (w0.heap.push _)[w.heap.size]? = _; rw [hw0]; simp
  have hsz : (w0.alloc (.cells cur e)).heap.size = w.heap.size + 1 := by show (w0.heap.push _).size = _; rw [hw0]; simp
  have st : Step h φ w S h' φ' (w0.alloc (.cells cur e)) S' i0 (.tok e sz es.length) :=
    { at0 := hat
      oth := hoth
      phi := fun i hi => updφ_other _ _ _ hi
      old := .inr (by simp [φ'])
      nt0 := fun ⟨o, k1, k2⟩ => by
        obtain ⟨e0, sz0, n0, k3, _⟩ := htok (List.getElem?_eq_some_iff.1 k1).1
        rw [k1] at k3; injection k3 with k3; subst k3; cases k2
      tok0 := fun e1 sz1 n1 k hi => by
        injection k with k1 k2 k3
        subst k3
        exact htok hi
      heap := fun b hb hne => hh b hb
      stab := fun _ _ k => .inl k
      new := fun b o k => by
        rcases k with k | ⟨k1, k2⟩
        · exact .inl k
        · exact .inr ⟨by simp [φ', k1], by omega⟩
      cell := fun o hs => by
        have := M.stab _ _ hs
        simp [φ'] at this
      os := h1
      tape := h2
      output := h3
      size := by omega }
  have E := st.ext M hlen
  have R : Rel h' φ' (w0.alloc (.cells cur e)) S' false (.rsl es) (.slice (some ⟨w.heap.size, 0, none⟩) es.length c) :=
    row_rel (V.mono E) hz hs hl hnew ht (fun j hj => .inr ⟨rfl, hj⟩) false
  have hi0 : i0 < h'.length := (List.getElem?_eq_some_iff.1 hat).1
  refine ⟨φ', S', st.sim M hlen ⟨cur, by simp [φ', hnew], by simpa [φ'] using hl, by simpa [φ'] using hc, by simpa [φ'] using hcur, fun j hj hS' => ?_⟩, E, .osl i0 es _ hi0 R (fun e1 sz1 n1 hn => ?_)⟩
  · rcases hS' with k | ⟨_, k⟩
    · have := M.stab _ _ k
      simp [φ'] at this
    · omega
  · rw [hat] at hn
    injection hn with hn
    injection hn with _ hsz1 hn
    subst hn
    exact ⟨Nat.le_refl _, fun _ => ⟨by simp [φ'], by rw [← hsz1]; exact hs⟩⟩

theorem set_same {l : List AO} {i : Nat} {o : AO} (e : l[i]? = some o) : l.set i o = l := by
  apply List.ext_getElem?
  intro j
  by_cases h : i = j
  · subst h
    rw [List.getElem?_set_self (List.getElem?_eq_some_iff.1 e).1, e]
  · rw [List.getElem?_set_ne h]

theorem fine_append (M : Sim h φ w S) (F : FRel h φ w S f a) {c : Call} {t e : TypeId} {i : TypeInfo} {y z : Operand} {p q : Opnd} (ho : o.op = .call c) (hc : c.callee = .builtin .append) (ht : c.argTypes = #[t, t]) (ha : c.args = #[y, z]) (hu : P.underlying t = some (.slice e)) (hi : P.info? e = some i)
    (hzs : (i.zero.map (·.cells.size)) = some i.size) (e1 : cO y = some p) (e2 : cO z = some q) (he : evP f h (.append e i.size i.bytes p q) = some (x, h')) : Fine P o a h φ w S x h' := by
  have r1 := rel_ev F e1
  have r2 := rel_ev F e2
  obtain ⟨zv, hzv, hzs⟩ : ∃ zv, i.zero = some zv ∧ zv.cells.size = i.size := by
    cases hz : i.zero with
    | none => simp [hz] at hzs
    | some zv => exact ⟨zv, rfl, by simpa [hz] using hzs⟩
  have hexec : ∀ v w', (Builtin.append_ #[t, t] o.type #[a.eval y, a.eval z]).run P w = .ok v w' → RunsTo P o a w v w' := fun v w' hr => .inl (by simp [execOp, ho, resolve, hc, invoke, builtin, ha, ht, hr])
  simp only [evP] at he
  split at he
  case h_2 => cases he
  rename_i ys hys
  obtain ⟨B, cB, hvz, hlB, rz⟩ := rel_elems hys r2
  unfold appA at he
  split at he
  · cases he
  rename_i hcond
  have hcond : 0 < i.size ∧ 0 < i.bytes ∧ ys.all (fun y => decide (y.cells.length = i.size) && y.cells.all AV.one) = true := Classical.not_not.1 hcond
  obtain ⟨hsz, hby, hall⟩ := hcond
  have hall' := all_cells hall
  obtain ⟨B', cB', news, hB, _, Vn, hcell, hne⟩ := row_vals rz hsz (fun x hx => (hall' x hx).1)
  rw [hvz] at hB
  injection hB with hB1 _ hB2
  subst hB1 hB2
  split at he
  · -- nil, or empty and full
    rename_i hx
    rw [hx] at r1
    generalize hv : a.eval y = v at r1
    cases r1 with
    | esl _ A =>
      split at he
      · -- nothing is appended
        injection he with he; injection he with h1 h2; subst h1 h2
        refine ⟨.slice A 0 0, w, φ, S, hexec _ _ ?_, M, Ext.refl _ _ _ _, .esl _ _⟩
        rw [hv, hvz]
        cases A <;> cases B <;> simp [Builtin.append_, run_underlying hu, Go.sizeOf, typeInfo, hi, Builtin.lenOf, Builtin.firstCells, loadCells, loadCellsFrom, storeCells]
      · rename_i hny
        split at he
        case isFalse => cases he
        rename_i hbound
        injection he with he; injection he with h1 h2; subst h1 h2
        have hny' : ys ≠ [] := fun e => hny e
        have hpos : 0 < ys.length := List.length_pos_iff.2 hny'
        obtain ⟨ad, rfl⟩ := hne hny'
        have hb1 : ys.length ≤ ys.length * i.bytes := Nat.le_mul_of_pos_right _ hby
        have hnews := fun j u hu => (hcell ad rfl j u hu).1
        have hge := grownCap_ge w ys.length 0 e
        have hmx := grownCap_le_maxLen w ys.length 0 e (by simp only [maxLen]; omega)
        have hrun : (Builtin.append_ #[t, t] o.type #[.slice A 0 0, .slice (some ad) ys.length cB]).run P w = .ok (.slice (some ⟨w.heap.size, 0, none⟩) ys.length (grownCap w ys.length 0 e)) (w.drew.alloc (.cells (news.toArray ++ Builtin.zeroCells zv.cells (grownCap w ys.length 0 e - ys.length)) e)) := by
          cases A with
          | none => exact run_append_nil w t o.type e i zv hu hi hzv ad ys.length cB news Vn.1 hnews hpos (by omega) (by omega)
          | some a0 =>
            have := run_append_grow (P := P) w t o.type e i zv hu hi hzv a0 0 0 [] (by simp) (fun j v hv => by simp at hv) ad ys.length cB news Vn.1 hnews (by omega) (by omega) (growslice_fits (by omega) (by rw [Nat.zero_add]; omega))
            simpa using this
        obtain ⟨φ', S', q1, q2, q3⟩ := sim_newrow M (es := ys) (cur := news.toArray ++ Builtin.zeroCells zv.cells (grownCap w ys.length 0 e - ys.length)) (c := grownCap w ys.length 0 e) (e := e) Vn hsz (fun x hx => (hall' x hx).1) hge hmx
          (by rw [Array.size_append, List.size_toArray, size_zeroCells, hzs, Vn.1, ← Nat.add_mul]; congr 1; omega)
          (by rw [← Vn.1]; simp) (w0 := w.drew) rfl rfl rfl rfl (i0 := h.length) (h' := h ++ [.tok e i.size ys.length]) (by simp)
          (fun j hj => by
            rcases Nat.lt_or_ge j h.length with k | k
            · rw [List.getElem?_append_left k]
            · rw [List.getElem?_eq_none (show h.length ≤ j from k), List.getElem?_eq_none (by simp; omega)]) (by simp) (fun k => absurd k (Nat.lt_irrefl _))
        exact ⟨_, _, φ', S', hexec _ _ (by rw [hv, hvz]; exact hrun), q1, q2, q3⟩
  · -- a row of one's own
    rename_i tk es hx
    rw [hx] at r1
    split at he
    case h_2 => cases he
    rename_i e' sz' n htk
    split at he
    case isFalse => cases he
    rename_i hb
    obtain ⟨rfl, rfl, rfl, hbound⟩ := hb
    injection he with he; injection he with h1 h2; subst h1 h2
    generalize hv : a.eval y = v at r1
    cases r1 with
    | osl _ _ _ htl rr hk =>
      obtain ⟨_, hcur⟩ := hk _ _ _ htk
      obtain ⟨hcur, hes⟩ := hcur rfl
      subst hcur
      obtain ⟨cur, k1, k2, k3, k4, k5⟩ := M.obj tk _ htk
      obtain ⟨A, cA, olds, hA, _, Vo, hocell, _⟩ := row_vals rr hsz hes
      injection hA with hA1 _ hA2
      subst hA1
      have hocell := hocell _ rfl
      have holds := fun j u hu => (hocell j u hu).1
      have htake : cur.toList.take (es.length * i.size) = olds := by
        apply List.ext_getElem?
        intro j
        by_cases hj : j < olds.length
        · have h1 := holds j _ (List.getElem?_eq_getElem hj)
          rw [Addr.add_lit, Nat.zero_add] at h1
          simp only [World.cell?, k1] at h1
          have h1' : cur[j]? = some olds[j] := by simpa using h1
          rw [List.getElem?_take, if_pos (by rw [← Vo.1]; exact hj), List.getElem?_eq_getElem hj]
          simpa using h1'
        · rw [List.getElem?_take, if_neg (by rw [← Vo.1]; exact hj), List.getElem?_eq_none (by omega)]
      have Va := Vo.append Vn hes
      have hsa : ∀ x ∈ es ++ ys, x.cells.length = i.size := fun x hx => by
        rcases List.mem_append.1 hx with hx | hx
        · exact hes x hx
        · exact (hall' x hx).1
      have hb1 : es.length + ys.length ≤ (es.length + ys.length) * i.bytes := Nat.le_mul_of_pos_right _ hby
      have hlen' : (es ++ ys).length = es.length + ys.length := List.length_append
      have htkl : tk < h.length := htl
      by_cases hny : ys = []
      · subst hny
        refine ⟨.slice (some ⟨(φ tk).blk, 0, none⟩) es.length (φ tk).cap, w, φ, S, hexec _ _ ?_, ?_, ?_, ?_⟩
        · rw [hv, hvz]
          cases B <;> simp [Builtin.append_, run_underlying hu, Go.sizeOf, typeInfo, hi, Builtin.lenOf, Builtin.firstCells, loadCells, loadCellsFrom, storeCells, k2]
        all_goals (have hset : h.set tk (.tok e' i.size (es.length + ([] : List AV).length)) = h := set_same htk)
        · rw [hset]; exact M
        · rw [hset]; exact Ext.refl _ _ _ _
        · rw [hset, List.append_nil]
          exact .osl tk es _ htl rr hk
      obtain ⟨ad, rfl⟩ := hne hny
      have hpos : 0 < ys.length := List.length_pos_iff.2 hny
      have hnews := fun j u hu => (hcell ad rfl j u hu).1
      by_cases hroom : es.length + ys.length ≤ (φ tk).cap
      · -- in place
        have hfit : es.length * i.size + news.length ≤ cur.size := by rw [Vn.1, k4, ← Nat.add_mul]; exact Nat.mul_le_mul_right _ hroom
        have hrun := run_append_room (P := P) w t o.type e' i hu hi (φ tk).blk es.length (φ tk).cap cur k1 ad ys.length cB news Vn.1 hnews Vn.2.1 hroom hfit
        let S' : Nat → Nat → Prop := fun b o => S b o ∨ (b = (φ tk).blk ∧ o < (es ++ ys).length * i.size)
        have hnew := setRow_heap w (φ tk).blk cur (cur.toList.take (es.length * i.size) ++ news ++ cur.toList.drop (es.length * i.size + news.length)).toArray e' (0, 0) k1
        have hlt := (Array.getElem?_eq_some_iff.1 k1).1
        have st : Step h φ w S (h.set tk (.tok e' i.size (es.length + ys.length))) φ (w.setRow (φ tk).blk (cur.toList.take (es.length * i.size) ++ news ++ cur.toList.drop (es.length * i.size + news.length)).toArray) S' tk (.tok e' i.size (es.length + ys.length)) :=
          { at0 := by simp [htkl]
            oth := fun j hj => by rw [List.getElem?_set_ne (Ne.symm hj)]
            phi := fun _ _ => rfl
            old := .inl ⟨_, htk, rfl, rfl⟩
            nt0 := fun ⟨o, q1, q2⟩ => by rw [htk] at q1; injection q1 with q1; subst q1; cases q2
            tok0 := fun e1 sz1 n1 k _ => by injection k with _ _ k; exact ⟨_, _, _, htk, by omega⟩
            heap := fun b _ hb' => setRow_other' _ _ _ _ hb'
            stab := fun _ _ k => .inl k
            new := fun b o k => by
              rcases k with k | ⟨q1, _⟩
              · exact .inl k
              · exact .inr ⟨q1, by rw [q1]; simpa [World.setRow] using hlt⟩
            cell := fun o hs => by
              have ho : o < es.length * i.size := by
                rcases Nat.lt_or_ge o (es.length * i.size) with k | k
                · exact k
                · exact absurd hs (k5 o k)
              simp only [World.cell?, hnew, k1]
              simp only [Option.isSome_none, Bool.false_eq_true, if_false]
              rw [List.getElem?_toArray, List.append_assoc, List.getElem?_append_left (by simp; omega), List.getElem?_take, if_pos ho]
              simp
            os := rfl
            tape := rfl
            output := rfl
            size := by simp [World.setRow] }
        have E := st.ext M (by simp)
        have htake' : (cur.toList.take (es.length * i.size) ++ news ++ cur.toList.drop (es.length * i.size + news.length)).toArray.toList.take ((es ++ ys).length * i.size) = olds ++ news := by
          rw [htake]
          show List.take _ (olds ++ news ++ _) = _
          rw [← Va.1]
          exact List.take_left
        have R : Rel (h.set tk (.tok e' i.size (es.length + ys.length))) φ _ S' false (.rsl (es ++ ys)) (.slice (some ⟨(φ tk).blk, 0, none⟩) (es ++ ys).length (φ tk).cap) :=
          row_rel (Va.mono E) hsz hsa (by omega) hnew htake' (fun j hj => .inr ⟨rfl, hj⟩) false
        rw [hlen'] at R
        refine ⟨_, _, φ, S', hexec _ _ (by rw [hv, hvz]; exact hrun), st.sim M (by simp) ⟨_, hnew, hroom, k3, ?_, fun j hj hS' => ?_⟩, E, .osl tk (es ++ ys) _ (by simp [htkl]) R (fun e1 sz1 n1 hn => ?_)⟩
        · simp only [List.size_toArray, List.length_append, List.length_take, List.length_drop, Array.length_toList]
          omega
        · rcases hS' with k | ⟨_, k⟩
          · have hle : es.length * i.size ≤ j := Nat.le_trans (Nat.mul_le_mul_right _ (by omega)) hj
            exact k5 j hle k
          · rw [hlen'] at k; omega
        · rw [st.at0] at hn
          injection hn with hn
          injection hn with _ hsz1 hn
          subst hn
          exact ⟨by omega, fun _ => ⟨rfl, by rw [← hsz1]; exact hsa⟩⟩
      · -- in a new block
        have hge := grownCap_ge w (es.length + ys.length) (φ tk).cap e'
        have hmx := grownCap_le_maxLen w (es.length + ys.length) (φ tk).cap e' (by simp only [maxLen]; omega)
        have hrun := run_append_grow (P := P) w t o.type e' i zv hu hi hzv ⟨(φ tk).blk, 0, none⟩ es.length (φ tk).cap olds Vo.1 holds ad ys.length cB news Vn.1 hnews (by omega) (by omega) (growslice_fits (by omega) (by omega))
        obtain ⟨φ', S', q1, q2, q3⟩ := sim_newrow M (es := es ++ ys) (vals := olds ++ news) (cur := olds.toArray ++ news.toArray ++ Builtin.zeroCells zv.cells (grownCap w (es.length + ys.length) (φ tk).cap e' - (es.length + ys.length))) (c := grownCap w (es.length + ys.length) (φ tk).cap e') (e := e') Va hsz hsa (by omega) hmx
          (by rw [Array.size_append, Array.size_append, List.size_toArray, List.size_toArray, size_zeroCells, hzs, Vn.1, Vo.1, ← Nat.add_mul, ← Nat.add_mul]; congr 1; omega)
          (by simp only [Array.toList_append]; rw [← Va.1]; exact List.take_left) (w0 := w.drew) rfl rfl rfl rfl (i0 := tk) (h' := h.set tk (.tok e' i.size (es.length + ys.length))) (by simp [htkl])
          (fun j hj => by rw [List.getElem?_set_ne (Ne.symm hj)]) (by simp) (fun _ => ⟨_, _, _, htk, by omega⟩)
        rw [hlen'] at q3
        exact ⟨_, _, φ', S', hexec _ _ (by rw [hv, hvz]; exact hrun), q1, q2, q3⟩
  · cases he
end
end Go.Eng
