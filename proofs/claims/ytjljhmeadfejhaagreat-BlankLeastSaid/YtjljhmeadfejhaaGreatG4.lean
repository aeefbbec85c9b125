/- desc.ready, Kind, Rows: of a schema, ready or not yet. -/
import Derived.Test.YtjljhmeadfejhaaGreatG3
set_option maxRecDepth 100000
set_option linter.unusedVariables false
set_option linter.unusedSimpArgs false
namespace Go.Proofs.YtjljhmeadfejhaaGreat
open Go.Eng
theorem fnd_none {s : ByteArray} : ∀ {ds : List Decl}, fnd s ds = none → ∀ d ∈ ds, d.name ≠ s
  | [], _, d, hd => by simp at hd
  | x :: ds, h, d, hd => by
    simp only [fnd] at h
    split at h
    · cases h
    · rename_i hx
      rcases List.mem_cons.1 hd with rfl | hd
      · exact hx
      · exact fnd_none (by simpa using h) d hd
theorem fnd_name {s : ByteArray} : ∀ {ds : List Decl} {n : Nat} (h : fnd s ds = some n), (ds[n]'(fnd_lt h)).name = s
  | [], n, h => by simp [fnd] at h
  | x :: ds, n, h => by
    have h' := h
    simp only [fnd] at h'
    split at h'
    · rename_i hx
      injection h' with h'
      subst h'
      exact hx
    · obtain ⟨m, hm, rfl⟩ := Option.map_eq_some_iff.1 h'
      have := fnd_name hm
      simpa using this
def ReadyD (H : List AO) (di : Nat) (ds : List Decl) : Prop := ∃ b u s sm, di < b ∧ u ≠ 0 ∧ ReadyC H b di (.int .u32 u) s sm ds
def Dsc (H : List AO) (di : Nat) (ds : List Decl) : Prop := H[di]? = some (.box (descB ds)) ∨ ReadyD H di ds
/-- What a schema is, that may be told of. -/
structure Told (ds : List Decl) : Prop where
  len : ds.length < 1099511627776
  ok : ∀ d ∈ ds, d.ok
  fit : ∀ d ∈ ds, d.fit
  nodup : ∀ (i j : Nat) (hi : i < ds.length) (hj : j < ds.length), i < j → ds[i].name ≠ ds[j].name
theorem ReadyC.set {H : List AO} {b di : Nat} {o s sm o' s' sm' : AV} {ds : List Decl} (R : ReadyC H b di o s sm ds) (hd : di < b) {cs : List AV} (hc : ∀ p q, H[di]? = some (.box [rowV (ds.map Decl.av), o, s, sm, p, q]) → cs = [rowV (ds.map Decl.av), o', s', sm', p, q]) :
    ReadyC (H.set di (.box cs)) b di o' s' sm' ds := by
  obtain ⟨ti, j, y, em, mi, es, a1, a2, a3, b1, b2, b3, b4, b5, b6, b7⟩ := R
  have ne : ∀ {x : Nat}, b ≤ x → (H.set di (.box cs))[x]? = H[x]? := fun {x} hx => by rw [List.getElem?_set_ne (by omega)]
  refine ⟨ti, j, y, em, mi, es, a1, a2, a3, ?_, by rw [ne a1]; exact b2, by rw [ne a2]; exact b3, b4, b5, by rw [ne a3]; exact b6, b7.mono fun id cs' hid e => by rw [ne hid]; exact e⟩
  rw [hc _ _ b1, List.getElem?_set_self (List.getElem?_eq_some_iff.1 b1).1]
theorem ReadyC.app {H : List AO} {b di : Nat} {o s sm : AV} {ds : List Decl} (R : ReadyC H b di o s sm ds) (X : List AO) : ReadyC (H ++ X) b di o s sm ds := by
  obtain ⟨ti, j, y, em, mi, es, a1, a2, a3, b1, b2, b3, b4, b5, b6, b7⟩ := R
  have ne : ∀ {x : Nat} {v : AO}, H[x]? = some v → (H ++ X)[x]? = some v := fun {x v} e => by rw [List.getElem?_append_left (List.getElem?_eq_some_iff.1 e).1]; exact e
  exact ⟨ti, j, y, em, mi, es, a1, a2, a3, ne b1, ne b2, ne b3, b4, b5, ne b6, b7.mono fun id cs' hid e => ne e⟩
theorem ReadyD.app {H : List AO} {di : Nat} {ds : List Decl} (R : ReadyD H di ds) (X : List AO) : ReadyD (H ++ X) di ds := by
  obtain ⟨b, u, s, sm, h1, h2, R⟩ := R
  exact ⟨b, u, s, sm, h1, h2, R.app X⟩
theorem Dsc.app {H : List AO} {di : Nat} {ds : List Decl} (D : Dsc H di ds) (X : List AO) : Dsc (H ++ X) di ds := by
  rcases D with D | D
  · exact .inl (by rw [List.getElem?_append_left (List.getElem?_eq_some_iff.1 D).1]; exact D)
  · exact .inr (D.app X)
theorem wReady {h : List AO} {di : Nat} {ds : List Decl} (t : Told ds) (D : Dsc h di ds) {K : ARes → List AO → Prop}
    (k : ∀ H', ReadyD H' di ds → h.length ≤ H'.length → (∀ j, j < h.length → j ≠ di → H'[j]? = h[j]?) → K (.ok (.tup [])) H') : W 45 [.ptr di 0] h K := by
  have ap : ∀ X : List AO, ∀ j, j < h.length → (h ++ X)[j]? = h[j]? := fun X j hj => by rw [List.getElem?_append_left hj]
  refine W_of mixed c45 (by simp [A45]) ?_
  simp [A45]
  rcases D with D | ⟨b, u, s, sm, hdb, hu, R⟩
  · have hi := (List.getElem?_eq_some_iff.1 D).1
    refine wDo (cs := descB ds) (by rw [ap _ _ hi]; exact D) rfl rfl ?_
    simp
    refine wReady1 (o := .int .u32 0) (s := .int .i32 1) (sm := .int .u32 0) (di := di) t.len t.ok t.fit t.nodup ?_ ?_ (by omega) (fun H' R hlen old => ?_)
    · rw [List.getElem?_set_ne (by omega)]; simp
    · simp [show di < h.length + 1 by omega]
    · have R0 : ReadyC H' (h.length + 1) di (.int .u32 0) (.int .i32 1) (.int .u32 0) ds := by simpa using R
      obtain ⟨ti, j, y, em, mi, es, a1, a2, a3, b1, _⟩ := R
      refine ⟨⟨_, rfl⟩, _, b1, ⟨_, rfl⟩, rfl, ?_⟩
      simp
      simp at hlen
      refine .inl (k _ ⟨h.length + 1, 1, _, _, by omega, by omega, (R0.set (o' := .int .u32 1) (s' := .int .i32 0) (sm' := .int .u32 0) (by omega) ?_)⟩ (by simp; omega) fun x hx hx' => ?_)
      · intro p q e
        rw [b1] at e
        simp at e
        simp [e]
      · rw [List.getElem?_set_ne (Ne.symm hx'), old x (by simp; omega) hx', List.getElem?_set_ne (Ne.symm hx'), ap _ _ hx]
  · have R0 := R
    obtain ⟨ti, j, y, em, mi, es, a1, a2, a3, b1, _⟩ := R
    have hi := (List.getElem?_eq_some_iff.1 b1).1
    refine wDone (o := 1) (by rw [ap _ _ hi]; exact b1) rfl hu ?_
    simp
    exact .inl (k _ ⟨b, u, s, sm, hdb, hu, R0.app _⟩ (by simp) fun x hx _ => ap _ _ hx)
theorem wDKind {h : List AO} {di : Nat} {ds : List Decl} {s : ByteArray} (t : Told ds) (D : Dsc h di ds) {K : ARes → List AO → Prop}
    (k : ∀ H', ReadyD H' di ds → h.length ≤ H'.length → (∀ j, j < h.length → j ≠ di → H'[j]? = h[j]?) → K (.ok (.int .i64 (kindR s ds))) H') : W 57 [.ptr di 0, .str s] h K := by
  refine W_of mixed c57 (by simp [A57]) ?_
  simp [A57]
  refine wReady t D (fun H' R hlen old => ?_)
  have R0 := R
  obtain ⟨b, u, s', sm, hdb, hu, ti, j, y, em, mi, es, a1, a2, a3, b1, b2, b3, b4, b5, b6, b7⟩ := R
  simp [b1]
  refine w96 b2 b3 (b4 s) b5 ?_
  simp
  exact .inl (k _ R0 hlen old)
theorem wDKindN {h : List AO} {s : ByteArray} {K : ARes → List AO → Prop} (k : K (.ok (.int .i64 0)) h) : W 57 [.nilp, .str s] h K := by
  refine W_of mixed c57 (by simp [A57]) ?_
  simp [A57]
  exact .inl k
def RowsOf (ds : List Decl) (s : ByteArray) (l : List Fld) : Prop := match fnd s ds with
  | none => l = []
  | some n => ∃ d, ds[n]? = some d ∧ SortedOn l 0 d.fields.length ∧ l.Perm d.fields
theorem wDRows {h : List AO} {di : Nat} {ds : List Decl} {s : ByteArray} (t : Told ds) (D : Dsc h di ds) {K : ARes → List AO → Prop}
    (k : ∀ l H', RowsOf ds s l → ReadyD H' di ds → h.length ≤ H'.length → (∀ j, j < h.length → j ≠ di → H'[j]? = h[j]?) → K (.ok (rowV (l.map Fld.av))) H') : W 15 [.ptr di 0, .str s] h K := by
  refine W_of mixed c15 (by simp [A15]) ?_
  simp [A15]
  refine wReady t D (fun H' R hlen old => ?_)
  have R0 := R
  obtain ⟨b, u, s', sm, hdb, hu, ti, j, y, em, mi, es, a1, a2, a3, b1, b2, b3, b4, b5, b6, b7⟩ := R
  cases hf : fnd s ds with
  | none =>
    have hno : ∀ d ∈ ds, d.name ≠ s := fun d hd => fnd_none hf d hd
    simp [b1, b6, b7.miss s hno]
    refine wFields (fs := []) (by simp) (by simp) ?_
    simp
    exact .inl (by simpa using k [] _ (by simp [RowsOf, hf]) R0 hlen old)
  | some n =>
    have hlt := fnd_lt hf
    have hnm : ds[n].name = s := fnd_name hf
    obtain ⟨v, hv, hr⟩ := b7.has ds[n] (List.getElem_mem hlt)
    rw [hnm] at hv
    simp [b1, b6, hv]
    obtain ⟨f1, f2, f3⟩ := t.fit ds[n] (List.getElem_mem hlt)
    rcases hr with ⟨hfs, rfl⟩ | ⟨id, l, rfl, hid, hb, hs, hp⟩
    · refine wFields (fs := []) (by simp) (by simp) ?_
      simp
      exact .inl (by simpa using k [] _ (by simp only [RowsOf, hf]; exact ⟨ds[n], List.getElem?_eq_getElem hlt, by rw [hfs]; intro i j h1 h2 h3; simp at h3, by rw [hfs]⟩) R0 hlen old)
    · rw [← hp.length_eq]
      refine wFieldsM (by rw [hp.length_eq]; omega) (fun f hf => f3 f (hp.mem_iff.1 hf)) hb ?_
      simp
      exact .inl (k l _ (by simp only [RowsOf, hf]; exact ⟨ds[n], List.getElem?_eq_getElem hlt, hs, hp⟩) R0 hlen old)
theorem wDRowsN {h : List AO} {s : ByteArray} {K : ARes → List AO → Prop} (k : K (.ok .esl) h) : W 15 [.nilp, .str s] h K := by
  refine W_of mixed c15 (by simp [A15]) ?_
  simp [A15]
  exact .inl k
end Go.Proofs.YtjljhmeadfejhaaGreat
