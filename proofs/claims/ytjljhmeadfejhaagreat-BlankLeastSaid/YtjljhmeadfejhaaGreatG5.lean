/- desc.Kind, Rows of a schema that is ready: what there is stays. -/
import Derived.Test.YtjljhmeadfejhaaGreatPKz
set_option maxRecDepth 100000
set_option linter.unusedVariables false
set_option linter.unusedSimpArgs false
namespace Go.Proofs.YtjljhmeadfejhaaGreat
open Go.Eng
def insT (f : Fld) : List Fld → List Fld
  | [] => [f]
  | g :: l => if f.tag ≤ g.tag then f :: g :: l else g :: insT f l
def sortT : List Fld → List Fld
  | [] => []
  | f :: l => insT f (sortT l)
theorem insT_perm (f : Fld) : ∀ l : List Fld, (insT f l).Perm (f :: l)
  | [] => .refl _
  | g :: l => by
    simp only [insT]
    split
    · exact .refl _
    · exact ((insT_perm f l).cons g).trans (.swap f g l)
theorem sortT_perm : ∀ l : List Fld, (sortT l).Perm l
  | [] => .refl _
  | f :: l => (insT_perm f _).trans ((sortT_perm l).cons f)
theorem insT_sorted (f : Fld) : ∀ l : List Fld, l.Pairwise (fun a b => a.tag ≤ b.tag) → (insT f l).Pairwise fun a b => a.tag ≤ b.tag
  | [], _ => by simp [insT]
  | g :: l, h => by
    obtain ⟨h1, h2⟩ := List.pairwise_cons.1 h
    simp only [insT]
    split
    · rename_i hle
      refine List.pairwise_cons.2 ⟨fun x hx => ?_, h⟩
      rcases List.mem_cons.1 hx with rfl | hx
      · exact hle
      · have := h1 x hx; omega
    · rename_i hle
      refine List.pairwise_cons.2 ⟨fun x hx => ?_, insT_sorted f l h2⟩
      rcases List.mem_cons.1 ((insT_perm f l).mem_iff.1 hx) with rfl | hx
      · omega
      · exact h1 x hx
theorem sortT_sorted : ∀ l : List Fld, (sortT l).Pairwise fun a b => a.tag ≤ b.tag
  | [] => List.Pairwise.nil
  | f :: l => insT_sorted f _ (sortT_sorted l)
theorem strict_unique : ∀ {l1 l2 : List Fld}, l1.Perm l2 → l1.Pairwise (fun a b => a.tag < b.tag) → l2.Pairwise (fun a b => a.tag < b.tag) → l1 = l2
  | [], l2, p, _, _ => (List.nil_perm.1 p).symm
  | a :: l1, [], p, _, _ => absurd p.length_eq (by simp)
  | a :: l1, b :: l2, p, h1, h2 => by
    obtain ⟨h11, h12⟩ := List.pairwise_cons.1 h1
    obtain ⟨h21, h22⟩ := List.pairwise_cons.1 h2
    have e : a = b := by
      have ha : a ∈ b :: l2 := p.mem_iff.1 (by simp)
      have hb : b ∈ a :: l1 := p.mem_iff.2 (by simp)
      rcases List.mem_cons.1 ha with e | ha
      · exact e
      · rcases List.mem_cons.1 hb with e | hb
        · exact e.symm
        · have := h11 b hb; have := h21 a ha; omega
    subst e
    rw [strict_unique (p.cons_inv) h12 h22]
theorem rowsOf_eq {ds : List Decl} {s : ByteArray} {l : List Fld} (hd : (fldsOf ds s).Pairwise fun a b => a.tag ≠ b.tag) (h : RowsOf ds s l) : l = sortT (fldsOf ds s) := by
  unfold RowsOf at h
  cases hf : fnd s ds with
  | none =>
    rw [hf] at h
    simp only at h
    subst h
    simp [fldsOf, hf, sortT]
  | some n =>
    rw [hf] at h
    obtain ⟨d, q1, q2, q3⟩ := h
    have e : fldsOf ds s = d.fields := by simp [fldsOf, hf, q1]
    rw [e] at hd ⊢
    have strict : ∀ {l : List Fld}, l.Perm d.fields → l.Pairwise (fun a b => a.tag ≤ b.tag) → l.Pairwise fun a b => a.tag < b.tag := by
      intro l p h
      have hn := (p.pairwise_iff (fun {a b} h => Ne.symm h)).2 hd
      exact (h.and hn).imp fun {a b} h => by omega
    refine strict_unique (q3.trans (sortT_perm _).symm) (strict q3 ?_) (strict (sortT_perm _) (sortT_sorted _))
    rw [List.pairwise_iff_getElem]
    intro i j hi hj hij
    have h1 := q2 i j (Nat.zero_le _) hij (by rw [← q3.length_eq]; exact hj)
    simp only [tg, List.getElem?_eq_getElem hi, List.getElem?_eq_getElem hj, Option.map_some, Option.getD_some] at h1
    exact h1
theorem wReadyR {h : List AO} {di : Nat} {ds : List Decl} (R : ReadyD h di ds) {K : ARes → List AO → Prop} (k : K (.ok (.tup [])) h) : W 45 [.ptr di 0] h K := by
  obtain ⟨b, u, s, sm, hdb, hu, ti, j, y, em, mi, es, a1, a2, a3, b1, _⟩ := R
  have hi := (List.getElem?_eq_some_iff.1 b1).1
  refine W_of mixed c45 (by simp [A45]) ?_
  simp [A45]
  refine wDone (o := 1) (by rw [List.getElem?_append_left hi]; exact b1) rfl hu ?_
  simp
  exact .inr ⟨h.length, 3, .tup [], DropOk.app h _, by simp [out], by simpa using k⟩
theorem wDKindR {h : List AO} {di : Nat} {ds : List Decl} {s : ByteArray} (R : ReadyD h di ds) {K : ARes → List AO → Prop} (k : K (.ok (.int .i64 (kindR s ds))) h) : W 57 [.ptr di 0, .str s] h K := by
  refine W_of mixed c57 (by simp [A57]) ?_
  simp [A57]
  refine wReadyR R ?_
  obtain ⟨b, u, s', sm, hdb, hu, ti, j, y, em, mi, es, a1, a2, a3, b1, b2, b3, b4, b5, b6, b7⟩ := R
  simp [b1]
  refine w96 b2 b3 (b4 s) b5 ?_
  simp
  exact .inl k
theorem wDRowsR {h : List AO} {di : Nat} {ds : List Decl} {s : ByteArray} (t : Told ds) (hd : (fldsOf ds s).Pairwise fun a b => a.tag ≠ b.tag) (R : ReadyD h di ds) {K : ARes → List AO → Prop} (k : K (.ok (rowV ((sortT (fldsOf ds s)).map Fld.av))) h) : W 15 [.ptr di 0, .str s] h K := by
  have k' : ∀ l, RowsOf ds s l → K (.ok (rowV (l.map Fld.av))) h := fun l hl => by rw [rowsOf_eq hd hl]; exact k
  refine W_of mixed c15 (by simp [A15]) ?_
  simp [A15]
  refine wReadyR R ?_
  obtain ⟨b, u, s', sm, hdb, hu, ti, j, y, em, mi, es, a1, a2, a3, b1, b2, b3, b4, b5, b6, b7⟩ := R
  cases hf : fnd s ds with
  | none =>
    have hno : ∀ d ∈ ds, d.name ≠ s := fun d hd => fnd_none hf d hd
    simp [b1, b6, b7.miss s hno]
    refine wFields (fs := []) (by simp) (by simp) ?_
    simp
    exact .inl (by simpa using k' [] (by simp [RowsOf, hf]))
  | some n =>
    have hlt := fnd_lt hf
    have hnm : ds[n].name = s := fnd_name hf
    obtain ⟨v, hv, hr⟩ := b7.has ds[n] (List.getElem_mem hlt)
    rw [hnm] at hv
    simp [b1, b6, hv]
    obtain ⟨f1, f2, f3⟩ := t.fit ds[n] (List.getElem_mem hlt)
    rcases hr with ⟨hfs, rfl⟩ | ⟨id, l, rfl, hid, hb, hs, hp⟩
    · refine wFields (fs := []) (by simp) (by simp) ?_
      simp
      exact .inl (by simpa using k' [] (by simp only [RowsOf, hf]; exact ⟨ds[n], List.getElem?_eq_getElem hlt, by rw [hfs]; intro i j h1 h2 h3; simp at h3, by rw [hfs]⟩))
    · rw [← hp.length_eq]
      refine wFieldsM (by rw [hp.length_eq]; omega) (fun f hf => f3 f (hp.mem_iff.1 hf)) hb ?_
      simp
      exact .inl (k' l (by simp only [RowsOf, hf]; exact ⟨ds[n], List.getElem?_eq_getElem hlt, hs, hp⟩))
end Go.Proofs.YtjljhmeadfejhaaGreat
