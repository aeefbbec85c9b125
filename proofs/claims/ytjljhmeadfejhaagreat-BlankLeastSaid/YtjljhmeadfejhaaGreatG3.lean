/- desc.ready: a schema is made ready. -/
import Derived.Test.YtjljhmeadfejhaaGreatG2
import Derived.Test.YtjljhmeadfejhaaGreatMQ
import Derived.Test.YtjljhmeadfejhaaGreatME4
set_option maxRecDepth 100000
set_option linter.unusedVariables false
set_option linter.unusedSimpArgs false
namespace Go.Proofs.YtjljhmeadfejhaaGreat
open Go.Eng
/-- A row of fields, sorted, as ready leaves it. -/
def RowAt (H : List AO) (b : Nat) (v : AV) (fs : List Fld) : Prop :=
  (fs = [] ∧ v = .rsl []) ∨ ∃ id l, v = .msl id 0 fs.length fs.length ∧ b ≤ id ∧ H[id]? = some (.box (fcL l)) ∧ SortedOn l 0 fs.length ∧ l.Perm fs
theorem RowAt.mono {H H' : List AO} {b : Nat} {v : AV} {fs : List Fld} (R : RowAt H b v fs) (k : ∀ id cs, b ≤ id → H[id]? = some (.box cs) → H'[id]? = some (.box cs)) : RowAt H' b v fs := by
  rcases R with R | ⟨id, l, e, h1, h2, h3⟩
  · exact .inl R
  · exact .inr ⟨id, l, e, h1, k _ _ h1 h2, h3⟩
def Keys (es : List (AV × AV)) : Prop := ∀ e ∈ es, ∃ s v, e = (.str s, v)
theorem kupd_none {m : List (AV × AV)} {t : ByteArray} {v : AV} (H : Keys m) (e : findA (.str t) m = some none) : updA (.str t) v m = some (m ++ [(.str t, v)]) := by
  induction m with
  | nil => rfl
  | cons x m ih =>
    obtain ⟨u, i, rfl⟩ := H x (List.mem_cons_self)
    simp only [findA, keyEq] at e
    by_cases hu : t = u
    · simp [hu] at e
    · simp [hu] at e
      simp [updA, keyEq, hu, ih (fun e he => H e (List.mem_cons_of_mem _ he)) e]
theorem kfind_snoc {m : List (AV × AV)} {s t : ByteArray} {v : AV} (H : Keys m) (e : findA (.str t) m = some none) : findA (.str s) (m ++ [(.str t, v)]) = if s = t then some (some v) else findA (.str s) m := by
  induction m with
  | nil => by_cases h : s = t <;> simp [findA, keyEq, h]
  | cons x m ih =>
    obtain ⟨u, i, rfl⟩ := H x (List.mem_cons_self)
    simp only [findA, keyEq] at e
    by_cases ht : t = u
    · simp [ht] at e
    · simp [ht] at e
      simp only [List.cons_append, findA, keyEq]
      by_cases hu : s = u
      · have : ¬ s = t := fun e => ht (e.symm.trans hu)
        simp [hu]
        intro e
        exact absurd e.symm ht
      · simp [hu, ih (fun e he => H e (List.mem_cons_of_mem _ he)) e]
/-- The map of rows. -/
structure MapRows (H : List AO) (b : Nat) (es : List (AV × AV)) (ds : List Decl) : Prop where
  keys : Keys es
  miss : ∀ s, (∀ d ∈ ds, d.name ≠ s) → findA (.str s) es = some none
  has : ∀ d ∈ ds, ∃ v, findA (.str d.name) es = some (some v) ∧ RowAt H b v d.fields
theorem MapRows.mono {H H' : List AO} {b : Nat} {es : List (AV × AV)} {ds : List Decl} (M : MapRows H b es ds) (k : ∀ id cs, b ≤ id → H[id]? = some (.box cs) → H'[id]? = some (.box cs)) : MapRows H' b es ds :=
  ⟨M.keys, M.miss, fun d hd => by obtain ⟨v, h1, h2⟩ := M.has d hd; exact ⟨v, h1, h2.mono k⟩⟩
theorem MapRows.add {H : List AO} {b : Nat} {es : List (AV × AV)} {ds : List Decl} {d : Decl} {v : AV} (M : MapRows H b es ds) (hd : ∀ x ∈ ds, x.name ≠ d.name) (R : RowAt H b v d.fields) :
    findA (.str d.name) es = some none ∧ updA (.str d.name) v es = some (es ++ [(.str d.name, v)]) ∧ MapRows H b (es ++ [(.str d.name, v)]) (ds ++ [d]) := by
  have h0 := M.miss _ hd
  refine ⟨h0, kupd_none M.keys h0, ?_, ?_, ?_⟩
  · intro e he
    rcases List.mem_append.1 he with he | he
    · exact M.keys e he
    · simp at he; exact ⟨_, _, he⟩
  · intro s hs
    rw [kfind_snoc M.keys h0, if_neg fun e => hs d (by simp) e.symm]
    exact M.miss s fun x hx => hs x (by simp [hx])
  · intro x hx
    rcases List.mem_append.1 hx with hx | hx
    · obtain ⟨w, h1, h2⟩ := M.has x hx
      exact ⟨w, by rw [kfind_snoc M.keys h0, if_neg (hd x hx)]; exact h1, h2⟩
    · simp at hx
      subst hx
      exact ⟨v, by rw [kfind_snoc M.keys h0, if_pos rfl], R⟩
structure RInv (h5 : List AO) (b mi : Nat) (ds : List Decl) (i : Nat) (H : List AO) : Prop where
  le : i ≤ ds.length
  len : h5.length ≤ H.length
  old : ∀ j, j < h5.length → j ≠ mi → H[j]? = h5[j]?
  es : ∃ es, H[mi]? = some (.map es) ∧ MapRows H b es (ds.take i)
/-- A schema that is ready. -/
def ReadyC (H : List AO) (b di : Nat) (o s sm : AV) (ds : List Decl) : Prop :=
  ∃ ti j y em mi es, b ≤ ti ∧ b ≤ j ∧ b ≤ mi ∧ H[di]? = some (.box [rowV (ds.map Decl.av), o, s, sm, .ptr ti 0, .map mi]) ∧ H[ti]? = some (.box [.map j, y]) ∧ H[j]? = some (.map em) ∧
    (∀ s, findA (.str s) em = some ((fnd s ds).map fun k => .int .i64 (k : Int))) ∧ iaA_ 1 y = iaA_ 1 (.rsl (kinds ds)) ∧ H[mi]? = some (.map es) ∧ MapRows H b es ds
theorem flds5 (l : List Fld) : ∀ x ∈ l.map Fld.av, x.cells.length = 5 := by
  intro x hx
  obtain ⟨m, _, rfl⟩ := List.mem_map.1 hx
  rfl
theorem wReady1 {h : List AO} {bi di : Nat} {ds : List Decl} {o s sm : AV} {K : ARes → List AO → Prop} (hl : ds.length < 1099511627776) (hok : ∀ d ∈ ds, d.ok) (hf : ∀ d ∈ ds, d.fit) (hn : ∀ (i j : Nat) (hi : i < ds.length) (hj : j < ds.length), i < j → ds[i].name ≠ ds[j].name)
    (h1 : h[bi]? = some (.box [.ptr di 0])) (h2 : h[di]? = some (.box [rowV (ds.map Decl.av), o, s, sm, .nilp, .nilmap])) (hne : bi ≠ di)
    (k : ∀ H', ReadyC H' h.length di o s sm ds → h.length ≤ H'.length → (∀ j, j < h.length → j ≠ di → H'[j]? = h[j]?) → K (.ok (.tup [])) H') : W 81 [.ptr bi 0] h K := by
  have hi1 := (List.getElem?_eq_some_iff.1 h1).1
  have hi2 := (List.getElem?_eq_some_iff.1 h2).1
  refine W_of mixed c81 (by simp [A81]) ?_
  simp [A81]
  refine R_regX ?_
  simp [h1, h2]
  refine ⟨_, _, w77t (by omega) ⟨rfl, rfl⟩, ?_⟩
  have g1 : (h ++ ofT h.length ds ds.length)[bi]? = some (.box [.ptr di 0]) := by rw [List.getElem?_append_left hi1]; exact h1
  have g2 : (h ++ ofT h.length ds ds.length)[di]? = some (.box [rowV (ds.map Decl.av), o, s, sm, .nilp, .nilmap]) := by rw [List.getElem?_append_left hi2]; exact h2
  simp [g2]
  refine ⟨?_, ?_⟩
  · intro p hp o' Fi Fk Fk' a1 a2 a3 a4
    simp at hp
    rcases hp with rfl
    all_goals
      simp at a1 a2 a3 a4
      subst a1 a2 a3 a4
      simp [Go.Eng.valOf, h1, g1, h2, g2]
  · obtain ⟨h3, e3⟩ : ∃ h3, h3 = (h ++ ofT h.length ds ds.length).set di (.box [rowV (ds.map Decl.av), o, s, sm, .ptr (h.length + 1) 0, .nilmap]) := ⟨_, rfl⟩
    have l3 : h3.length = h.length + (ofT h.length ds ds.length).length := by rw [e3]; simp
    have b3 : h3[bi]? = some (.box [.ptr di 0]) := by rw [e3, List.getElem?_set_ne (Ne.symm hne)]; exact g1
    have d3 : h3[di]? = some (.box [rowV (ds.map Decl.av), o, s, sm, .ptr (h.length + 1) 0, .nilmap]) := by rw [e3, List.getElem?_set_self (by simp; omega)]
    rw [← e3]
    have b4 : ∀ x : AO, (h3 ++ [x])[bi]? = some (.box [.ptr di 0]) := fun x => by rw [List.getElem?_append_left (List.getElem?_eq_some_iff.1 b3).1]; exact b3
    have d4 : ∀ x : AO, (h3 ++ [x])[di]? = some (.box [rowV (ds.map Decl.av), o, s, sm, .ptr (h.length + 1) 0, .nilmap]) := fun x => by rw [List.getElem?_append_left (List.getElem?_eq_some_iff.1 d3).1]; exact d3
    simp [b3, d3, b4, d4]
    obtain ⟨h5, e5⟩ : ∃ h5, h5 = (h3 ++ [AO.map []]).set di (.box [rowV (ds.map Decl.av), o, s, sm, .ptr (h.length + 1) 0, .map h3.length]) := ⟨_, rfl⟩
    have l5 : h5.length = h3.length + 1 := by rw [e5]; simp
    have b5 : h5[bi]? = some (.box [.ptr di 0]) := by rw [e5, List.getElem?_set_ne (Ne.symm hne)]; exact b4 _
    have d5 : h5[di]? = some (.box [rowV (ds.map Decl.av), o, s, sm, .ptr (h.length + 1) 0, .map h3.length]) := by rw [e5, List.getElem?_set_self (by simp; omega)]
    have m5 : h5[h3.length]? = some (.map []) := by rw [e5, List.getElem?_set_ne (by omega)]; simp
    rw [← e5]
    obtain ⟨R0, hR0, hRl, hRi⟩ : ∃ R0 : AV, R0 = rowV (ds.map Decl.av) ∧ lenA R0 = some ds.length ∧ ∀ q, iaA_ 5 R0 q = iaA_ 5 (.rsl (ds.map Decl.av)) q := by
      refine ⟨_, rfl, ?_, fun q => ?_⟩
      · cases ds <;> simp [rowV]
      · cases ds <;> simp [rowV]
    rw [← hR0] at d5
    simp [b5, d5, -lenA, hRl]
    have s0 : RInv h5 h.length h3.length ds 0 h5 := ⟨Nat.zero_le _, Nat.le_refl _, fun _ _ _ => rfl, _, m5, fun e he => by simp at he, fun s _ => rfl, fun d hd => by simp at hd⟩
    have lt3 : h3.length < h5.length := by omega
    have hle3 : h.length ≤ h3.length := by omega
    refine lp_indE (ι := Nat × List AO) (fun s => RInv h5 h.length h3.length ds s.1 s.2) (fun s => ds.length - s.1)
      (fun s => [(0, .ptr bi 0), (19, R0), (20, .int .i64 (ds.length : Int)), (21, .int .i64 (s.1 : Int))]) (fun s => s.2) ?_ (0, h5) s0 rfl rfl
    rintro ⟨i, H⟩ ⟨le, ln, old, es, hes, hM⟩ ih
    simp only at le ln old hes hM ih ⊢
    have hw := wrap_succ (i := i) (by omega)
    have hB : H[bi]? = some (.box [.ptr di 0]) := by rw [old bi (by omega) (by omega)]; exact b5
    have hD : H[di]? = some (.box [R0, o, s, sm, .ptr (h.length + 1) 0, .map h3.length]) := by rw [old di (by omega) (by omega)]; exact d5
    have aB : ∀ X : List AO, (H ++ X)[bi]? = some (.box [.ptr di 0]) := fun X => by rw [List.getElem?_append_left (List.getElem?_eq_some_iff.1 hB).1]; exact hB
    have aD : ∀ X : List AO, (H ++ X)[di]? = some (.box [R0, o, s, sm, .ptr (h.length + 1) 0, .map h3.length]) := fun X => by rw [List.getElem?_append_left (List.getElem?_eq_some_iff.1 hD).1]; exact hD
    have aM : ∀ X : List AO, (H ++ X)[h3.length]? = some (.map es) := fun X => by rw [List.getElem?_append_left (List.getElem?_eq_some_iff.1 hes).1]; exact hes
    by_cases hlt : i < ds.length
    · obtain ⟨f1, f2, f3⟩ := hf _ (List.getElem_mem hlt)
      have m1 : (ds[i].fields.map Fld.av).length ≤ maxLen := by simp [maxLen]; omega
      have m2 : (ds[i].fields.map Fld.av).length * 72 ≤ 140737488355328 := by simp; omega
      have hnm : ∀ x ∈ ds.take i, x.name ≠ ds[i].name := by
        intro x hx
        obtain ⟨j, hj, rfl⟩ := List.mem_iff_getElem.1 hx
        simp at hj
        simp
        exact hn j i (by omega) hlt (by omega)
      have next : ∀ (X : List AO) (v : AV), RowAt (H ++ X) h.length v ds[i].fields → updA (.str ds[i].name) v es = some (es ++ [(.str ds[i].name, v)]) ∧ RInv h5 h.length h3.length ds (i + 1) ((H ++ X).set h3.length (.map (es ++ [(.str ds[i].name, v)]))) := by
        intro X v R
        have keep : ∀ id cs, h.length ≤ id → H[id]? = some (.box cs) → (H ++ X)[id]? = some (.box cs) := fun id cs _ e => by rw [List.getElem?_append_left (List.getElem?_eq_some_iff.1 e).1]; exact e
        obtain ⟨n1, n2, n3⟩ := (hM.mono keep).add hnm R
        refine ⟨n2, by omega, by simp; omega, fun j hj hj' => ?_, _, by rw [List.getElem?_set_self (by simp; omega)], ?_⟩
        · rw [List.getElem?_set_ne (Ne.symm hj'), List.getElem?_append_left (by omega)]
          exact old j hj hj'
        · rw [List.take_succ_eq_append_getElem hlt]
          refine n3.mono fun id cs _ e => ?_
          rw [List.getElem?_set_ne]
          · exact e
          · rintro rfl
            rw [aM X] at e
            cases e
      have IH := fun X v R => ih (i + 1, (H ++ X).set h3.length (.map (es ++ [(.str ds[i].name, v)]))) (next X v R).2 (by simp; omega)
      simp [uf A81_l0.eq_1, hlt, -iaA_, hRi]
      simp [hlt, Decl.av]
      refine wClone82 (flds5 _) m1 m2 ?_
      by_cases hfe : ds[i].fields = []
      · have R : RowAt (H ++ [AO.box [.int .i64 ds[i].kind, .str ds[i].name, .rsl (ds[i].fields.map Fld.av), .rsl (ds[i].methods.map Mth.av), .int .i64 ds[i].e]]) h.length (.rsl []) ds[i].fields := .inl ⟨hfe, rfl⟩
        have n2 := (next _ _ R).1
        have IHi := IH _ _ R
        rw [hfe] at IHi
        simp [hfe]
        refine wSortNil ?_
        simp [aB, aD, aM, n2, hw]
        simpa using IHi
      · simp [hfe]
        obtain ⟨dv, hdv⟩ : ∃ dv, dv = AO.box [.int .i64 ds[i].kind, .str ds[i].name, .rsl (ds[i].fields.map Fld.av), .rsl (ds[i].methods.map Mth.av), .int .i64 ds[i].e] := ⟨_, rfl⟩
        have hb : ∀ l : List Fld, HB (H ++ [dv, AO.box []]) (H.length + 1) l = H ++ [dv, AO.box (fcL l)] := fun l => by
          simp [List.set_append_right, show H.length ≤ H.length + 1 by omega]
        rw [← hdv, fcL_eq, ← hb]
        refine wSort (by simp) f1 (fun l' so pm => ?_)
        have R : RowAt (H ++ [dv, AO.box (fcL l')]) h.length (.msl (H.length + 1) 0 ds[i].fields.length ds[i].fields.length) ds[i].fields :=
          .inr ⟨H.length + 1, l', rfl, by omega, by simp [List.getElem?_append_right], so, pm⟩
        have n2 := (next _ _ R).1
        have IHi := IH _ _ R
        rw [hb, hdv]
        rw [hdv] at IHi
        simp [aB, aD, aM, n2, hw]
        simpa using IHi
    · have hi : i = ds.length := by omega
      subst hi
      simp [uf A81_l0.eq_1]
      refine .inl (k _ ?_ (by omega) fun j hj hj' => ?_)
      · obtain ⟨y, q1, q2, q3⟩ := ofH_box h ds ds.length
        have t2 := (ofT_bel h.length ds ds.length).2
        have back : ∀ j, h.length ≤ j → j < h3.length → H[j]? = (ofH h ds ds.length)[j]? := fun j hj hj' => by
          rw [old j (by omega) (by omega), e5, List.getElem?_set_ne (by omega), List.getElem?_append_left hj', e3, List.getElem?_set_ne (by omega), ofH_eq]
        refine ⟨h.length + 1, h.length, y, _, h3.length, es, by omega, Nat.le_refl _, hle3, by rw [hD, hR0], by rw [back _ (by omega) (by omega)]; exact q1, by rw [back _ (by omega) (by omega)]; exact q2, fun s => find_mp s ds, funext fun i => by rw [q3, List.take_length], hes, ?_⟩
        rwa [List.take_length] at hM
      · rw [old j (by omega) (by omega), e5, List.getElem?_set_ne (Ne.symm hj'), List.getElem?_append_left (by omega), e3, List.getElem?_set_ne (Ne.symm hj'), List.getElem?_append_left hj]
end Go.Proofs.YtjljhmeadfejhaaGreat
