/- YtjljhmeadfejhaaGreatMQ: texts of this claim, merged. -/
import Derived.Test.YtjljhmeadfejhaaGreatG1
/- Rows of fields that are sorted: reading, writing, comparing. -/
set_option maxRecDepth 100000
set_option linter.unusedVariables false
set_option linter.unusedSimpArgs false
namespace Go.Proofs.YtjljhmeadfejhaaGreat
open Go.Eng
abbrev fc (f : Fld) : List AV := [.int .i64 f.tag, .str f.name, .int .i64 f.ty.kind, .str f.ty.name, .rsl (f.ty.of.map Ty.av)]
def fcL : List Fld → List AV
  | [] => []
  | f :: l => fc f ++ fcL l
theorem fcL_eq (l : List Fld) : cellsL (l.map Fld.av) = fcL l := by
  induction l with
  | nil => rfl
  | cons f l ih => simp only [cellsL, List.map_cons, List.flatten_cons, fcL] at ih ⊢; rw [ih]; rfl
theorem fcL_len : ∀ l : List Fld, (fcL l).length = l.length * 5
  | [] => rfl
  | f :: l => by simp only [fcL, List.length_append, List.length_cons, List.length_nil, fcL_len l]; omega
theorem fcL_drop : ∀ (l : List Fld) (i : Nat), (fcL l).drop (i * 5) = fcL (l.drop i)
  | l, 0 => by simp
  | [], i + 1 => by simp [fcL]
  | f :: l, i + 1 => by
    rw [show (i + 1) * 5 = 5 + i * 5 by omega, ← List.drop_drop]
    have : (fcL (f :: l)).drop 5 = fcL l := rfl
    rw [this, fcL_drop l i]; rfl
theorem fcL_get {l : List Fld} {i : Nat} (hi : i < l.length) : ((fcL l).drop (i * 5)).take 5 = fc l[i] := by
  rw [fcL_drop, List.drop_eq_getElem_cons hi]; rfl
theorem fcL_set : ∀ {l : List Fld} {i : Nat}, i < l.length → ∀ f : Fld, (fcL l).take (i * 5) ++ (fc f ++ (fcL l).drop (i * 5 + 5)) = fcL (l.set i f)
  | [], _, hi, _ => by simp at hi
  | g :: l, 0, _, f => rfl
  | g :: l, i + 1, hi, f => by
    have := fcL_set (l := l) (i := i) (by simpa using hi) f
    have e1 : List.take ((i + 1) * 5) (fcL (g :: l)) = fc g ++ List.take (i * 5) (fcL l) := by
      rw [show (i + 1) * 5 = (fc g).length + i * 5 by simp; omega]
      show List.take ((fc g).length + i * 5) (fc g ++ fcL l) = _
      rw [List.take_length_add_append]
    have e2 : List.drop ((i + 1) * 5 + 5) (fcL (g :: l)) = List.drop (i * 5 + 5) (fcL l) := by
      rw [show (i + 1) * 5 + 5 = (fc g).length + (i * 5 + 5) by simp; omega]
      show List.drop ((fc g).length + (i * 5 + 5)) (fc g ++ fcL l) = _
      rw [List.drop_length_add_append]
    rw [e1, e2, List.append_assoc, this]
    rfl
theorem wNaN {n : Int} {h : List AO} {K : ARes → List AO → Prop} (k : K (.ok (.bool false)) h) : W 141 [.int .i64 n] h K := by
  refine W_of mixed c141 (by simp [A141]) ?_
  simp [A141]
  exact .inl k
def cmpI (a b : Int) : Int := if a < b then -1 else if a > b then 1 else 0
theorem wCmpInt {a b : Int} {h : List AO} {K : ARes → List AO → Prop} (k : K (.ok (.int .i64 (cmpI a b))) h) : W 85 [.int .i64 a, .int .i64 b] h K := by
  refine W_of mixed c85 (by simp [A85]) ?_
  simp [A85]
  refine wNaN ?_
  simp
  refine wNaN ?_
  simp
  unfold cmpI at k
  by_cases h1 : a < b
  · simp [h1]
    rw [if_pos h1] at k
    exact .inl k
  · rw [if_neg h1] at k
    by_cases h2 : b < a
    · simp [h1, h2]
      rw [if_pos h2] at k
      exact .inl k
    · simp [h1, h2]
      rw [if_neg h2] at k
      exact .inl k
theorem wLess {f g : Fld} {h : List AO} {K : ARes → List AO → Prop} (k : K (.ok (.int .i64 (cmpI f.tag g.tag))) h) : W 84 [.agg (fc f), .agg (fc g)] h K := by
  refine W_of mixed c84 (by simp [A84]) ?_
  simp [A84]
  refine wCmpInt ?_
  simp
  exact ret_pure (by simp) k
end Go.Proofs.YtjljhmeadfejhaaGreat

/- Sorting rows of fields: by insertion. -/
set_option maxRecDepth 100000
set_option linter.unusedVariables false
set_option linter.unusedSimpArgs false
namespace Go.Proofs.YtjljhmeadfejhaaGreat
open Go.Eng
/-- Two neighbours change places. -/
def swp (l : List Fld) (i j : Nat) : List Fld := match l[i]?, l[j]? with
  | some x, some y => (l.set i y).set j x
  | _, _ => l
theorem swp_eq {l : List Fld} {i j : Nat} (hi : i < l.length) (hj : j < l.length) : swp l i j = (l.set i l[j]).set j l[i] := by
  unfold swp; rw [List.getElem?_eq_getElem hi, List.getElem?_eq_getElem hj]
theorem swp_len (l : List Fld) (i j : Nat) : (swp l i j).length = l.length := by
  unfold swp; split <;> simp
def lessF (f g : Fld) : Bool := decide (f.tag < g.tag)
theorem cmpI_neg (a b : Int) : decide (cmpI a b < 0) = decide (a < b) := by
  unfold cmpI; split
  · rename_i h; simp [h]
  · rename_i h; split <;> simp [h]
/-- The field at j goes down to where it belongs. -/
def sink (a : Nat) : Nat → List Fld → List Fld
  | 0, l => l
  | j + 1, l => match l[j + 1]?, l[j]? with
    | some x, some y => if a < j + 1 ∧ x.tag < y.tag then sink a j (swp l (j + 1) j) else l
    | _, _ => l
theorem sink_len (a : Nat) : ∀ (j : Nat) (l : List Fld), (sink a j l).length = l.length
  | 0, l => rfl
  | j + 1, l => by
    rw [sink]
    split
    · split
      · rw [sink_len a j, swp_len]
      · rfl
    · rfl
def insF (a b : Nat) : Nat → Nat → List Fld → List Fld
  | 0, _, l => l
  | n + 1, i, l => if i < b then insF a b n (i + 1) (sink a i l) else l
abbrev HB (h : List AO) (id : Nat) (l : List Fld) : List AO := h.set id (.box (fcL l))
abbrev cmpV : AV := .fn 84 [] []
theorem wIns {h : List AO} {id : Nat} (hid : id < h.length) {l : List Fld} {a b : Nat} (hab : a ≤ b) (hb : b ≤ l.length) (hl : l.length < 1099511627776) {K : ARes → List AO → Prop} (k : K (.ok (.tup [])) (HB h id (insF a b (b - (a + 1)) (a + 1) l))) :
    W 183 [.msl id 0 l.length l.length, .int .i64 a, .int .i64 b, cmpV] (HB h id l) K := by
  refine W_of mixed c183 (by simp [A183]) ?_
  simp [A183]
  have w1 : IntKind.i64.wrap ((a : Int) + 1) = ((a + 1 : Nat) : Int) := wrap_succ (by omega)
  rw [w1]
  refine lp_indE (ι := Nat × List Fld) (fun s => a + 1 ≤ s.1 ∧ s.2.length = l.length ∧ insF a b (b - s.1) s.1 s.2 = insF a b (b - (a + 1)) (a + 1) l) (fun s => b - s.1)
    (fun s => [(0, .msl id 0 l.length l.length), (1, .int .i64 (a : Int)), (2, .int .i64 (b : Int)), (3, cmpV), (8, .int .i64 (s.1 : Int))]) (fun s => HB h id s.2) ?_ (a + 1, l) ⟨by simp, rfl, rfl⟩ rfl rfl
  rintro ⟨i, m⟩ ⟨hi, hm, hR⟩ ih
  simp only at hi hm hR ih ⊢
  have wi := wrap_succ (i := i)
  by_cases hlt : i < b
  · have wi := wi (by omega)
    have IH := ih (i + 1, sink a i m)
    obtain ⟨q, hq⟩ : ∃ q, b - i = q + 1 := ⟨b - i - 1, by omega⟩
    have hq' : b - (i + 1) = q := by omega
    rw [hq, insF, if_pos hlt] at hR
    simp [uf A183_l1.eq_1, hlt]
    refine lp_indE (ι := Nat × List Fld) (fun s => s.1 ≤ i ∧ a ≤ s.1 ∧ s.2.length = l.length ∧ sink a s.1 s.2 = sink a i m) (fun s => s.1)
      (fun s => [(0, .msl id 0 l.length l.length), (1, .int .i64 (a : Int)), (2, .int .i64 (b : Int)), (3, cmpV), (8, .int .i64 (i : Int)), (9, .int .i64 (s.1 : Int))]) (fun s => HB h id s.2) ?_ (i, m) ⟨Nat.le_refl _, by omega, hm, rfl⟩ rfl rfl
    rintro ⟨j, p⟩ ⟨hj, haj, hp, hS⟩ ih2
    simp only at hj haj hp hS ih2 ⊢
    have slen : ∀ (n : Nat) (x : List Fld), (sink a n x).length = x.length := sink_len a
    have fin : sink a j p = p → LP ⟨intPg Tryz.prog 0 .i64, HB h id l, [], K⟩ [0, 1, 2, 3, 8] A183_l1 [.blk 0] [(0, .msl id 0 l.length l.length), (1, .int .i64 (a : Int)), (2, .int .i64 (b : Int)), (3, cmpV), (8, .int .i64 ((i : Int) + 1))] (HB h id p) := by
      intro e
      have := IH ⟨by simp; omega, by simp [slen, hm], by simp only; rw [hq', hR]⟩ (by simp; omega)
      rw [← hS, e] at this
      simpa using this
    by_cases haj' : a < j
    · obtain ⟨j, rfl⟩ : ∃ n, j = n + 1 := ⟨j - 1, by omega⟩
      have hj1 : j + 1 < l.length := by omega
      have hj0 : j < l.length := by omega
      have hj1' : ((j : Int) + 1).toNat = j + 1 := by omega
      have wj : IntKind.i64.wrap (j : Int) = (j : Int) := wrap_i64 _ (by omega) (by omega)
      have p1 : ¬ ((j : Int) + 1 < 0) := by omega
      have p2 : (a : Int) < (j : Int) + 1 := by omega
      have p0 : ¬ ((j : Int) < 0) := by omega
      have r1 := fcL_get (l := p) (i := j + 1) (by omega)
      have r0 := fcL_get (l := p) (i := j) (by omega)
      have b1 : (j + 1) * 5 ≤ l.length * 5 := by omega
      have b0 : j * 5 ≤ l.length * 5 := by omega
      have d1 : 5 ≤ l.length * 5 - (j + 1) * 5 := by omega
      have d0 : 5 ≤ l.length * 5 - j * 5 := by omega
      simp [uf A183_l0.eq_1, p2, hid, p1, p0, hj1, hj0, hj1', wj, fcL_len, hp, b1, b0, d1, d0, r1, r0]
      refine ⟨_, _, wLess ⟨rfl, rfl⟩, ?_⟩
      have hg1 : p[j + 1]? = some p[j + 1] := List.getElem?_eq_getElem (by omega)
      have hg0 : p[j]? = some p[j] := List.getElem?_eq_getElem (by omega)
      simp [cmpI_neg]
      by_cases ht : p[j + 1].tag < p[j].tag
      · have hstep : sink a (j + 1) p = sink a j (swp p (j + 1) j) := by rw [sink, hg1, hg0]; simp only; rw [if_pos ⟨by omega, ht⟩]
        have s1 := fcL_set (l := p) (i := j + 1) (by omega) p[j]
        have s2 := fcL_set (l := p.set (j + 1) p[j]) (i := j) (by simp; omega) p[j + 1]
        simp only [fc, List.cons_append, List.nil_append] at s1 s2
        have c1 : (j + 1) * 5 + 5 ≤ l.length * 5 := by omega
        have c0 : j * 5 + 5 ≤ l.length * 5 := by omega
        have L := ih2 (j, swp p (j + 1) j) ⟨by simp; omega, by simp; omega, by simp [swp_len, hp], by simp only; rw [← hstep, hS]⟩ (by simp)
        rw [swp_eq (by omega) (by omega)] at L
        simp at L
        simp [ht, hid, p1, p0, hj1, hj0, hj1', wj, fcL_len, hp, b1, b0, d1, d0, r1, r0, c1, c0, s1, s2]
        exact L
      · have hstep : sink a (j + 1) p = p := by rw [sink, hg1, hg0]; simp only; rw [if_neg (fun h => ht h.2)]
        simp [ht, uf A183_r0.eq_1, wi]
        exact fin hstep
    · have : j = a := by omega
      subst this
      have hsk : sink j j p = p := by
        cases j with
        | zero => rfl
        | succ n => rw [sink]; split <;> first | rfl | rw [if_neg (by omega)]
      simp [uf A183_l0.eq_1, hid]
      simp [uf A183_r0.eq_1, wi]
      exact fin hsk
  · simp [uf A183_l1.eq_1, hlt]
    have : b - i = 0 := by omega
    rw [this, insF] at hR
    rw [← hR] at k
    exact .inl k
end Go.Proofs.YtjljhmeadfejhaaGreat

/- Sorting rows of fields: plain laws. -/
set_option maxRecDepth 100000
set_option linter.unusedVariables false
set_option linter.unusedSimpArgs false
namespace Go.Proofs.YtjljhmeadfejhaaGreat
open Go.Eng
def tg (l : List Fld) (i : Nat) : Int := ((l[i]?).map Fld.tag).getD 0
def SortedOn (l : List Fld) (a b : Nat) : Prop := ∀ i j, a ≤ i → i < j → j < b → tg l i ≤ tg l j
/-- The same fields in another order; beyond a and b as they were. -/
structure Rng (a b : Nat) (l l' : List Fld) : Prop where
  perm : l'.Perm l
  out : ∀ k, k < a ∨ b ≤ k → l'[k]? = l[k]?
theorem Rng.refl (a b : Nat) (l : List Fld) : Rng a b l l := ⟨.refl _, fun _ _ => rfl⟩
theorem Rng.trans {a b : Nat} {l l1 l2 : List Fld} (h : Rng a b l l1) (h' : Rng a b l1 l2) : Rng a b l l2 := ⟨h'.perm.trans h.perm, fun k hk => (h'.out k hk).trans (h.out k hk)⟩
theorem Rng.len {a b : Nat} {l l' : List Fld} (h : Rng a b l l') : l'.length = l.length := h.perm.length_eq
theorem Rng.wide {a b a' b' : Nat} {l l' : List Fld} (h : Rng a b l l') (ha : a' ≤ a) (hb : b ≤ b') : Rng a' b' l l' := ⟨h.perm, fun k hk => h.out k (by omega)⟩
theorem Rng.tg {a b : Nat} {l l' : List Fld} (h : Rng a b l l') {k : Nat} (hk : k < a ∨ b ≤ k) : tg l' k = tg l k := by unfold Go.Proofs.YtjljhmeadfejhaaGreat.tg; rw [h.out k hk]
theorem swp_get {l : List Fld} {i j : Nat} (hi : i < l.length) (hj : j < l.length) (k : Nat) : (swp l i j)[k]? = if k = j then l[i]? else if k = i then l[j]? else l[k]? := by
  rw [swp_eq hi hj, List.getElem?_set, List.getElem?_set]
  by_cases h1 : j = k
  · subst h1; simp [hj, hi]
  · by_cases h2 : i = k
    · subst h2; simp [h1, Ne.symm h1, hi, hj]
    · simp [h1, h2, Ne.symm h1, Ne.symm h2]
theorem tg_swp {l : List Fld} {i j : Nat} (hi : i < l.length) (hj : j < l.length) (k : Nat) : tg (swp l i j) k = if k = j then tg l i else if k = i then tg l j else tg l k := by
  unfold tg; rw [swp_get hi hj]
  split
  · rfl
  · split <;> rfl
theorem swp_rng {l : List Fld} {i j a b : Nat} (hi : i < l.length) (hj : j < l.length) (h1 : a ≤ i) (h2 : i < b) (h3 : a ≤ j) (h4 : j < b) : Rng a b l (swp l i j) := by
  refine ⟨?_, fun k hk => ?_⟩
  · rw [swp_eq hi hj]; exact List.set_set_perm hi hj
  · rw [swp_get hi hj, if_neg (by omega), if_neg (by omega)]
theorem tg_of {l : List Fld} {i : Nat} (hi : i < l.length) : tg l i = l[i].tag := by simp [tg, hi]
theorem sink_law {a i : Nat} : ∀ (j : Nat) (l : List Fld), a ≤ j → j ≤ i → i < l.length → (∀ x y, a ≤ x → x < y → y ≤ i → x ≠ j → y ≠ j → tg l x ≤ tg l y) → (∀ y, j < y → y ≤ i → tg l j ≤ tg l y) →
    SortedOn (sink a j l) a (i + 1) ∧ Rng a (i + 1) l (sink a j l)
  | 0, l, h1, h2, h3, h4, h5 => by
    refine ⟨fun x y hx hxy hy => ?_, Rng.refl _ _ _⟩
    show tg l x ≤ tg l y
    by_cases e : x = 0
    · subst e; exact h5 y hxy (by omega)
    · exact h4 x y hx hxy (by omega) e (by omega)
  | j + 1, l, h1, h2, h3, h4, h5 => by
    have g1 : l[j + 1]? = some l[j + 1] := List.getElem?_eq_getElem (by omega)
    have g0 : l[j]? = some l[j] := List.getElem?_eq_getElem (by omega)
    rw [sink, g1, g0]
    simp only
    by_cases hc : a < j + 1 ∧ l[j + 1].tag < l[j].tag
    · rw [if_pos hc]
      obtain ⟨c1, c2⟩ := hc
      rw [← tg_of (l := l) (i := j + 1) (by omega), ← tg_of (l := l) (i := j) (by omega)] at c2
      have T := tg_swp (l := l) (i := j + 1) (j := j) (by omega) (by omega)
      have R := swp_rng (l := l) (i := j + 1) (j := j) (a := a) (b := i + 1) (by omega) (by omega) (by omega) (by omega) (by omega) (by omega)
      obtain ⟨r1, r2⟩ := sink_law (a := a) (i := i) j (swp l (j + 1) j) (by omega) (by omega) (by rw [swp_len]; omega)
        (fun x y hx hxy hy n1 n2 => by
          rw [T, T, if_neg n1, if_neg n2]
          by_cases e1 : x = j + 1
          · rw [if_pos e1, if_neg (by omega)]; exact h4 j y (by omega) (by omega) hy (by omega) (by omega)
          · rw [if_neg e1]
            by_cases e2 : y = j + 1
            · rw [if_pos e2]; exact h4 x j hx (by omega) (by omega) (by omega) (by omega)
            · rw [if_neg e2]; exact h4 x y hx hxy hy e1 e2)
        (fun y hy hyi => by
          rw [T, T, if_pos rfl, if_neg (by omega)]
          by_cases e2 : y = j + 1
          · rw [if_pos e2]; omega
          · rw [if_neg e2]; exact h5 y (by omega) hyi)
      exact ⟨r1, R.trans r2⟩
    · rw [if_neg hc]
      refine ⟨fun x y hx hxy hy => ?_, Rng.refl _ _ _⟩
      by_cases e1 : x = j + 1
      · subst e1; exact h5 y hxy (by omega)
      · by_cases e2 : y = j + 1
        · subst e2
          have c3 : tg l j ≤ tg l (j + 1) := by
            rw [tg_of (l := l) (i := j + 1) (by omega), tg_of (l := l) (i := j) (by omega)]
            omega
          by_cases e3 : x = j
          · rw [e3]; exact c3
          · exact Int.le_trans (h4 x j hx (by omega) (by omega) (by omega) (by omega)) c3
        · exact h4 x y hx hxy (by omega) e1 e2
theorem insF_law {a b : Nat} : ∀ (n i : Nat) (l : List Fld), n = b - i → a ≤ i → i ≤ b → b ≤ l.length → SortedOn l a i → SortedOn (insF a b n i l) a b ∧ Rng a b l (insF a b n i l)
  | 0, i, l, hn, ha, hi, hb, hs => by
    obtain rfl : i = b := by omega
    exact ⟨hs, Rng.refl _ _ _⟩
  | n + 1, i, l, hn, ha, hi, hb, hs => by
    rw [insF, if_pos (by omega)]
    obtain ⟨r1, r2⟩ := sink_law (a := a) (i := i) i l ha (Nat.le_refl _) (by omega) (fun x y hx hxy hy n1 n2 => hs x y hx hxy (by omega)) (fun y h1 h2 => by omega)
    obtain ⟨q1, q2⟩ := insF_law (a := a) (b := b) n (i + 1) (sink a i l) (by omega) (by omega) (by omega) (by rw [sink_len]; omega) r1
    exact ⟨q1, (r2.wide (Nat.le_refl _) (by omega)).trans q2⟩
/-- By insertion. -/
theorem wIns' {h : List AO} {id : Nat} (hid : id < h.length) {l : List Fld} {a b : Nat} (hab : a ≤ b) (hb : b ≤ l.length) (hl : l.length < 1099511627776) {K : ARes → List AO → Prop}
    (k : ∀ l', SortedOn l' a b → Rng a b l l' → K (.ok (.tup [])) (HB h id l')) : W 183 [.msl id 0 l.length l.length, .int .i64 a, .int .i64 b, cmpV] (HB h id l) K := by
  refine wIns hid hab hb hl ?_
  rcases Nat.eq_or_lt_of_le hab with rfl | hlt
  · rw [show a - (a + 1) = 0 by omega]
    exact k l (fun i j h1 h2 h3 => by omega) (Rng.refl _ _ _)
  · obtain ⟨q1, q2⟩ := insF_law (a := a) (b := b) (b - (a + 1)) (a + 1) l rfl (by omega) (by omega) hb (fun i j h1 h2 h3 => by omega)
    exact k _ q1 q2
end Go.Proofs.YtjljhmeadfejhaaGreat

/- Sorting rows of fields: ranges that change places, rows that are turned round. -/
set_option maxRecDepth 100000
set_option linter.unusedVariables false
set_option linter.unusedSimpArgs false
namespace Go.Proofs.YtjljhmeadfejhaaGreat
open Go.Eng
def sr (a b : Nat) : Nat → List Fld → List Fld
  | 0, l => l
  | n + 1, l => swp (sr a b n l) (a + n) (b + n)
theorem sr_len (a b : Nat) : ∀ (n : Nat) (l : List Fld), (sr a b n l).length = l.length
  | 0, l => rfl
  | n + 1, l => by rw [sr, swp_len, sr_len a b n]
theorem sr_get {a b : Nat} : ∀ (n : Nat) (l : List Fld), a + n ≤ b → b + n ≤ l.length → ∀ k, (sr a b n l)[k]? = if a ≤ k ∧ k < a + n then l[b + (k - a)]? else if b ≤ k ∧ k < b + n then l[a + (k - b)]? else l[k]?
  | 0, l, h1, h2, k => by rw [if_neg (by omega), if_neg (by omega)]; rfl
  | n + 1, l, h1, h2, k => by
    have G := sr_get (a := a) (b := b) n l (by omega) (by omega)
    rw [sr, swp_get (by rw [sr_len]; omega) (by rw [sr_len]; omega), G, G, G]
    by_cases e1 : k = b + n
    · subst e1
      rw [if_pos rfl, if_neg (by omega), if_neg (by omega), if_neg (by omega), if_pos (by omega)]
      congr 1; omega
    · rw [if_neg e1]
      by_cases e2 : k = a + n
      · subst e2
        rw [if_pos rfl, if_neg (by omega), if_neg (by omega), if_pos (by omega)]
        congr 1; omega
      · rw [if_neg e2]
        by_cases e3 : a ≤ k ∧ k < a + n
        · rw [if_pos e3, if_pos (by omega)]
        · rw [if_neg e3, if_neg (show ¬ (a ≤ k ∧ k < a + (n + 1)) by omega)]
          by_cases e4 : b ≤ k ∧ k < b + n
          · rw [if_pos e4, if_pos (by omega)]
          · rw [if_neg e4, if_neg (by omega)]
theorem sr_perm {a b : Nat} : ∀ (n : Nat) (l : List Fld), a + n ≤ b → b + n ≤ l.length → (sr a b n l).Perm l
  | 0, l, _, _ => .refl _
  | n + 1, l, h1, h2 => by
    have := swp_rng (l := sr a b n l) (i := a + n) (j := b + n) (a := 0) (b := l.length) (by rw [sr_len]; omega) (by rw [sr_len]; omega) (by omega) (by omega) (by omega) (by omega)
    exact this.perm.trans (sr_perm (a := a) (b := b) n l (by omega) (by omega))
theorem wSwr {h : List AO} {id : Nat} (hid : id < h.length) {l : List Fld} {a b n : Nat} (hab : a + n ≤ b) (hb : b + n ≤ l.length) (hl : l.length < 1099511627776) {f : AV} {K : ARes → List AO → Prop} (k : K (.ok (.tup [])) (HB h id (sr a b n l))) :
    W 221 [.msl id 0 l.length l.length, .int .i64 a, .int .i64 b, .int .i64 n, f] (HB h id l) K := by
  refine W_of mixed c221 (by simp [A221]) ?_
  simp [A221]
  refine lp_indE (ι := Nat) (fun i => i ≤ n) (fun i => n - i)
    (fun i => [(0, .msl id 0 l.length l.length), (1, .int .i64 (a : Int)), (2, .int .i64 (b : Int)), (3, .int .i64 (n : Int)), (10, .int .i64 (i : Int))]) (fun i => HB h id (sr a b i l)) ?_ 0 (by omega) rfl rfl
  intro i hi ih
  have wi := wrap_succ (i := i) (by omega)
  by_cases hlt : i < n
  · have IH := ih (i + 1) (by omega) (by omega)
    obtain ⟨p, hp⟩ : ∃ p, p = sr a b i l := ⟨_, rfl⟩
    have hpl : p.length = l.length := by rw [hp, sr_len]
    rw [sr, ← hp, swp_eq (by omega) (by omega)] at IH
    rw [← hp]
    have wa : IntKind.i64.wrap ((a : Int) + (i : Int)) = ((a + i : Nat) : Int) := by rw [wrap_i64 _ (by omega) (by omega)]; omega
    have wb : IntKind.i64.wrap ((b : Int) + (i : Int)) = ((b + i : Nat) : Int) := by rw [wrap_i64 _ (by omega) (by omega)]; omega
    have p1 : ¬ ((a : Int) + (i : Int) < 0) := by omega
    have p2 : ¬ ((b : Int) + (i : Int) < 0) := by omega
    have t1 : ((a : Int) + (i : Int)).toNat = a + i := by omega
    have t2 : ((b : Int) + (i : Int)).toNat = b + i := by omega
    have j1 : a + i < l.length := by omega
    have j2 : b + i < l.length := by omega
    have r1 := fcL_get (l := p) (i := a + i) (by omega)
    have r2 := fcL_get (l := p) (i := b + i) (by omega)
    have b1 : (a + i) * 5 ≤ l.length * 5 := by omega
    have b2 : (b + i) * 5 ≤ l.length * 5 := by omega
    have d1 : 5 ≤ l.length * 5 - (a + i) * 5 := by omega
    have d2 : 5 ≤ l.length * 5 - (b + i) * 5 := by omega
    have c1 : (a + i) * 5 + 5 ≤ l.length * 5 := by omega
    have c2 : (b + i) * 5 + 5 ≤ l.length * 5 := by omega
    have s1 := fcL_set (l := p) (i := a + i) (by omega) p[b + i]
    have s2 := fcL_set (l := p.set (a + i) p[b + i]) (i := b + i) (by simp; omega) p[a + i]
    simp only [fc, List.cons_append, List.nil_append] at s1 s2
    simp at IH
    simp [uf A221_l0.eq_1, hlt, hid, wa, wb, p1, p2, t1, t2, j1, j2, fcL_len, hpl, r1, r2, b1, b2, d1, d2, c1, c2, s1, s2, wi]
    exact IH
  · have : i = n := by omega
    subst this
    simp [uf A221_l0.eq_1]
    exact .inl k
end Go.Proofs.YtjljhmeadfejhaaGreat

/- Sorting rows of fields: rotate. -/
set_option maxRecDepth 100000
set_option linter.unusedVariables false
set_option linter.unusedSimpArgs false
namespace Go.Proofs.YtjljhmeadfejhaaGreat
open Go.Eng
def srIx (a b n k : Nat) : Nat := if a ≤ k ∧ k < a + n then b + (k - a) else if b ≤ k ∧ k < b + n then a + (k - b) else k
theorem sr_ix {a b n : Nat} {l : List Fld} (h1 : a + n ≤ b) (h2 : b + n ≤ l.length) (k : Nat) : (sr a b n l)[k]? = l[srIx a b n k]? := by
  rw [sr_get n l h1 h2]
  unfold srIx
  split
  · rfl
  · split <;> rfl
def rotIx (a m b k : Nat) : Nat := if a ≤ k ∧ k < a + (b - m) then k + (m - a) else if a + (b - m) ≤ k ∧ k < b then k - (b - m) else k
/-- [a, m) and [m, b) have changed places. -/
def Rot (a m b : Nat) (l l' : List Fld) : Prop := l'.Perm l ∧ ∀ k, l'[k]? = l[rotIx a m b k]?
theorem rot_i {A m i j k : Nat} (hA : A + i = m) (hij : j < i) : srIx A m j (rotIx (A + j) m (m + j) k) = rotIx A m (m + j) k := by
  unfold srIx rotIx
  repeat' split
  all_goals omega
theorem rot_j {A m i j k : Nat} (hA : A + i = m) (hij : i < j) : srIx A (m + (j - i)) i (rotIx A m (m + (j - i)) k) = rotIx A m (m + j) k := by
  unfold srIx rotIx
  repeat' split
  all_goals omega
theorem rot_e {A m i k : Nat} (hA : A + i = m) : srIx A m i k = rotIx A m (m + i) k := by
  unfold srIx rotIx
  repeat' split
  all_goals omega
theorem wRot {h : List AO} {id : Nat} (hid : id < h.length) {l : List Fld} {a m b : Nat} (ham : a < m) (hmb : m < b) (hb : b ≤ l.length) (hl : l.length < 1099511627776) {f : AV} {K : ARes → List AO → Prop}
    (k : ∀ l', Rot a m b l l' → K (.ok (.tup [])) (HB h id l')) : W 209 [.msl id 0 l.length l.length, .int .i64 a, .int .i64 m, .int .i64 b, f] (HB h id l) K := by
  have w1 : IntKind.i64.wrap ((m : Int) - (a : Int)) = ((m - a : Nat) : Int) := by rw [wrap_i64 _ (by omega) (by omega)]; omega
  have w2 : IntKind.i64.wrap ((b : Int) - (m : Int)) = ((b - m : Nat) : Int) := by rw [wrap_i64 _ (by omega) (by omega)]; omega
  refine W_of mixed c209 (by simp [A209]) ?_
  simp [A209, w1, w2]
  refine lp_indE (ι := Nat × Nat × List Fld) (fun s => 0 < s.1 ∧ 0 < s.2.1 ∧ s.1 ≤ m - a ∧ s.2.1 ≤ b - m ∧ s.2.2.length = l.length ∧ ∀ l', Rot (m - s.1) m (m + s.2.1) s.2.2 l' → Rot a m b l l') (fun s => s.1 + s.2.1)
    (fun s => [(0, .msl id 0 l.length l.length), (2, .int .i64 (m : Int)), (4, f), (10, .int .i64 (s.1 : Int)), (11, .int .i64 (s.2.1 : Int))]) (fun s => HB h id s.2.2) ?_ (m - a, b - m, l)
    ⟨by simp; omega, by simp; omega, by simp, by simp, rfl, fun l' r => by simpa [show m - (m - a) = a by omega, show m + (b - m) = b by omega] using r⟩ rfl rfl
  rintro ⟨i, j, p⟩ ⟨hi, hj, hi2, hj2, hp, hR⟩ ih
  simp only at hi hj hi2 hj2 hp hR ih ⊢
  have v1 : IntKind.i64.wrap ((m : Int) - (i : Int)) = ((m - i : Nat) : Int) := by rw [wrap_i64 _ (by omega) (by omega)]; omega
  by_cases hij : i = j
  · subst hij
    simp [uf A209_l0.eq_1, uf A209_r0.eq_1, v1]
    rw [← hp]
    refine wSwr hid (by omega) (by omega) (by omega) ?_
    simp
    refine .inl (k _ (hR _ ⟨sr_perm _ _ (by omega) (by omega), fun q => ?_⟩))
    rw [sr_ix (by omega) (by omega), rot_e (by omega)]
  · have hij' : ¬ ((i : Int) = (j : Int)) := by omega
    by_cases hlt : j < i
    · have v2 : IntKind.i64.wrap ((i : Int) - (j : Int)) = ((i - j : Nat) : Int) := by rw [wrap_i64 _ (by omega) (by omega)]; omega
      have L := ih (i - j, j, sr (m - i) m j p) ⟨by simp; omega, by simp; omega, by simp; omega, by simp; omega, by simp [sr_len, hp], fun l' ⟨r1, r2⟩ => hR l' ⟨r1.trans (sr_perm _ _ (by omega) (by omega)), fun q => ?_⟩⟩ (by simp; omega)
      · simp [uf A209_l0.eq_1, hij', hlt, v1, v2]
        rw [← hp]
        refine wSwr hid (by omega) (by omega) (by omega) ?_
        simp [v2]
        simp at L
        rw [hp]
        exact L
      · simp only at r2
        rw [r2, sr_ix (by omega) (by omega), show m - (i - j) = m - i + j by omega, rot_i (i := i) (by omega) hlt]
    · have hlt2 : i < j := by omega
      have v2 : IntKind.i64.wrap ((j : Int) - (i : Int)) = ((j - i : Nat) : Int) := by rw [wrap_i64 _ (by omega) (by omega)]; omega
      have v3 : IntKind.i64.wrap ((m : Int) + (j : Int)) = ((m + j : Nat) : Int) := by rw [wrap_i64 _ (by omega) (by omega)]; omega
      have v4 : IntKind.i64.wrap ((m : Int) + (j : Int) - (i : Int)) = ((m + (j - i) : Nat) : Int) := by rw [wrap_i64 _ (by omega) (by omega)]; omega
      have L := ih (i, j - i, sr (m - i) (m + (j - i)) i p) ⟨by simp; omega, by simp; omega, by simp; omega, by simp; omega, by simp [sr_len, hp], fun l' ⟨r1, r2⟩ => hR l' ⟨r1.trans (sr_perm _ _ (by omega) (by omega)), fun q => ?_⟩⟩ (by simp; omega)
      · simp [uf A209_l0.eq_1, hij', hlt, v1, v2, v3, v4]
        rw [← hp]
        refine wSwr (b := m + (j - i)) hid (by omega) (by omega) (by omega) ?_
        simp [v2]
        simp at L
        rw [hp]
        exact L
      · simp only at r2
        rw [r2, sr_ix (by omega) (by omega), rot_j (i := i) (by omega) hlt2]
end Go.Proofs.YtjljhmeadfejhaaGreat

/- Sorting rows of fields: plain laws of merging. -/
set_option maxRecDepth 100000
set_option linter.unusedVariables false
set_option linter.unusedSimpArgs false
namespace Go.Proofs.YtjljhmeadfejhaaGreat
open Go.Eng
theorem Rot.tg {a m b : Nat} {l l' : List Fld} (r : Rot a m b l l') (k : Nat) : tg l' k = tg l (rotIx a m b k) := by unfold Go.Proofs.YtjljhmeadfejhaaGreat.tg; rw [r.2 k]
theorem Rot.rng {s m e a b : Nat} {l l' : List Fld} (r : Rot s m e l l') (h1 : a ≤ s) (h2 : e ≤ b) (h3 : s ≤ m) (h4 : m ≤ e) : Rng a b l l' := by
  refine ⟨r.1, fun k hk => ?_⟩
  rw [r.2 k]
  congr 1
  unfold rotIx
  rw [if_neg (by omega), if_neg (by omega)]
theorem rotA {s m e k : Nat} (h : k < s) (h3 : s ≤ m) (h4 : m ≤ e) : rotIx s m e k = k := by unfold rotIx; rw [if_neg (by omega), if_neg (by omega)]
theorem rotB {s m e k : Nat} (h : s ≤ k) (h' : k < s + (e - m)) : rotIx s m e k = k + (m - s) := by unfold rotIx; rw [if_pos ⟨h, h'⟩]
theorem rotC {s m e k : Nat} (h : s + (e - m) ≤ k) (h' : k < e) : rotIx s m e k = k - (e - m) := by unfold rotIx; rw [if_neg (by omega), if_pos ⟨h, h'⟩]
theorem rotD {s m e k : Nat} (h : e ≤ k) (h3 : s ≤ m) (h4 : m ≤ e) : rotIx s m e k = k := by unfold rotIx; rw [if_neg (by omega), if_neg (by omega)]
/-- What is turned round is sorted, if the pieces stand to each other as they should. -/
theorem rot_sorted {a s m e b : Nat} {l l' : List Fld} (r : Rot s m e l l') (h1 : a ≤ s) (h3 : s ≤ m) (h4 : m ≤ e) (h2 : e ≤ b) (s1 : SortedOn l a m) (s2 : SortedOn l m b)
    (c1 : ∀ x y, a ≤ x → x < s → m ≤ y → y < e → tg l x ≤ tg l y) (c2 : ∀ x y, s ≤ x → x < m → m ≤ y → y < e → tg l y ≤ tg l x) (c3 : ∀ x y, s ≤ x → x < m → e ≤ y → y < b → tg l x ≤ tg l y)
    (c4 : ∀ x y, a ≤ x → x < s → e ≤ y → y < b → tg l x ≤ tg l y) : SortedOn l' a b := by
  intro i j hi hij hj
  rw [r.tg, r.tg]
  by_cases iA : i < s
  · rw [rotA iA h3 h4]
    by_cases jA : j < s
    · rw [rotA jA h3 h4]; exact s1 i j hi hij (by omega)
    · by_cases jB : j < s + (e - m)
      · rw [rotB (by omega) jB]; exact c1 _ _ hi iA (by omega) (by omega)
      · by_cases jC : j < e
        · rw [rotC (by omega) jC]; exact s1 _ _ hi (by omega) (by omega)
        · rw [rotD (by omega) h3 h4]; exact c4 _ _ hi iA (by omega) (by omega)
  · by_cases iB : i < s + (e - m)
    · rw [rotB (by omega) iB]
      by_cases jB : j < s + (e - m)
      · rw [rotB (by omega) jB]; exact s2 _ _ (by omega) (by omega) (by omega)
      · by_cases jC : j < e
        · rw [rotC (by omega) jC]; exact c2 _ _ (by omega) (by omega) (by omega) (by omega)
        · rw [rotD (by omega) h3 h4]; exact s2 _ _ (by omega) (by omega) (by omega)
    · by_cases iC : i < e
      · rw [rotC (by omega) iC]
        by_cases jC : j < e
        · rw [rotC (by omega) jC]; exact s1 _ _ (by omega) (by omega) (by omega)
        · rw [rotD (by omega) h3 h4]; exact c3 _ _ (by omega) (by omega) (by omega) (by omega)
      · rw [rotD (by omega) h3 h4, rotD (by omega) h3 h4]; exact s2 _ _ (by omega) (by omega) (by omega)
/-- A field within is one that was within. -/
theorem Rng.mem {a b : Nat} {l l' : List Fld} (r : Rng a b l l') (hab : a ≤ b) (hb : b ≤ l.length) {x : Nat} (h1 : a ≤ x) (h2 : x < b) : ∃ y, a ≤ y ∧ y < b ∧ Go.Proofs.YtjljhmeadfejhaaGreat.tg l' x = Go.Proofs.YtjljhmeadfejhaaGreat.tg l y := by
  have hl := r.len
  have e1 : l'.take a = l.take a := by
    apply List.ext_getElem?
    intro k
    rw [List.getElem?_take, List.getElem?_take]
    split
    · exact r.out k (.inl (by assumption))
    · rfl
  have e2 : l'.drop b = l.drop b := by
    apply List.ext_getElem?
    intro k
    rw [List.getElem?_drop, List.getElem?_drop]
    exact r.out _ (.inr (by omega))
  have split3 : ∀ q : List Fld, q = q.take a ++ ((q.drop a).take (b - a) ++ q.drop b) := by
    intro q
    have : (q.drop a).drop (b - a) = q.drop b := by rw [List.drop_drop]; congr 1; omega
    rw [← this, List.take_append_drop, List.take_append_drop]
  have P := r.perm
  rw [split3 l', split3 l, e1, e2] at P
  have P2 := (List.perm_append_right_iff _).1 ((List.perm_append_left_iff _).1 P)
  have hx : l'[x] ∈ (l'.drop a).take (b - a) := by
    rw [List.mem_iff_getElem?]
    refine ⟨x - a, ?_⟩
    rw [List.getElem?_take, if_pos (by omega), List.getElem?_drop, show a + (x - a) = x by omega]
    exact List.getElem?_eq_getElem (by omega)
  obtain ⟨y, hy⟩ := List.mem_iff_getElem?.1 (P2.mem_iff.1 hx)
  rw [List.getElem?_take] at hy
  split at hy
  case isFalse => cases hy
  rename_i hlt
  rw [List.getElem?_drop] at hy
  refine ⟨a + y, by omega, by omega, ?_⟩
  unfold Go.Proofs.YtjljhmeadfejhaaGreat.tg
  rw [hy, List.getElem?_eq_getElem (show x < l'.length by omega)]
/-- Two sorted halves, the one below the other one. -/
theorem halves {a c b : Nat} {l : List Fld} (s1 : SortedOn l a c) (s2 : SortedOn l c b) (h : ∀ x y, a ≤ x → x < c → c ≤ y → y < b → tg l x ≤ tg l y) : SortedOn l a b := by
  intro i j hi hij hj
  by_cases h1 : j < c
  · exact s1 i j hi hij h1
  · by_cases h2 : i < c
    · exact h i j hi h2 (by omega) hj
    · exact s2 i j (by omega) hij hj
theorem SortedOn.congr {a b : Nat} {l l' : List Fld} (s : SortedOn l a b) (h : ∀ k, a ≤ k → k < b → tg l' k = tg l k) : SortedOn l' a b := by
  intro i j hi hij hj
  rw [h i hi (by omega), h j (by omega) hj]
  exact s i j hi hij hj
/-- The step of going up: the first field goes to the end, one by one. -/
theorem rot_up {a t : Nat} {l p : List Fld} (r : Rot a (a + 1) (a + 1 + t) l p) (hl : a + 1 + t < l.length) : Rot a (a + 1) (a + 1 + (t + 1)) l (swp p (a + t) (a + t + 1)) := by
  have hp := r.1.length_eq
  refine ⟨(swp_rng (l := p) (i := a + t) (j := a + t + 1) (a := 0) (b := p.length) (by omega) (by omega) (by omega) (by omega) (by omega) (by omega)).perm.trans r.1, fun k => ?_⟩
  rw [swp_get (by omega) (by omega), r.2, r.2, r.2]
  split
  · congr 1; unfold rotIx; repeat' split
    all_goals omega
  · split
    · congr 1; unfold rotIx; repeat' split
      all_goals omega
    · congr 1; unfold rotIx; repeat' split
      all_goals omega
/-- The step of going down. -/
theorem rot_down {s m : Nat} {l p : List Fld} (hs : s < m) (r : Rot (s + 1) m (m + 1) l p) (hl : m < l.length) : Rot s m (m + 1) l (swp p (s + 1) s) := by
  have hp := r.1.length_eq
  refine ⟨(swp_rng (l := p) (i := s + 1) (j := s) (a := 0) (b := p.length) (by omega) (by omega) (by omega) (by omega) (by omega) (by omega)).perm.trans r.1, fun k => ?_⟩
  rw [swp_get (by omega) (by omega), r.2, r.2, r.2]
  split
  · congr 1; unfold rotIx; repeat' split
    all_goals omega
  · split
    · congr 1; unfold rotIx; repeat' split
      all_goals omega
    · congr 1; unfold rotIx; repeat' split
      all_goals omega
theorem Rot.id {a m : Nat} (l : List Fld) (h : a ≤ m) : Rot a m m l l := by
  refine ⟨.refl _, fun k => ?_⟩
  congr 1
  unfold rotIx; repeat' split
  all_goals omega
theorem Rot.id' {m b : Nat} (l : List Fld) : Rot m m b l l := by
  refine ⟨.refl _, fun k => ?_⟩
  congr 1
  unfold rotIx; repeat' split
  all_goals omega
end Go.Proofs.YtjljhmeadfejhaaGreat

/- Sorting rows of fields: symMerge. -/
set_option maxRecDepth 100000
set_option linter.unusedVariables false
set_option linter.unusedSimpArgs false
namespace Go.Proofs.YtjljhmeadfejhaaGreat
open Go.Eng
theorem wrap_u64 {n : Nat} (h : n < 9223372036854775807) : IntKind.wrap .u64 (n : Int) = (n : Int) := by
  simp [IntKind.wrap, IntKind.bits, IntKind.signed]; omega
theorem half {i j : Nat} (h : i + j < 9223372036854775807) : IntKind.i64.wrap (((i : Int) + (j : Int)).fdiv (2 ^ min 1 IntKind.u64.bits)) = (((i + j) / 2 : Nat) : Int) := by
  have e : (2 : Int) ^ min 1 IntKind.u64.bits = 2 := rfl
  rw [e, Int.fdiv_eq_ediv_of_nonneg _ (by omega), wrap_i64 _ (by omega) (by omega)]
  omega
/-- One field is put into a sorted row behind it. -/
theorem symA {h : List AO} {id : Nat} (hid : id < h.length) {l : List Fld} {a b : Nat} (hmb : a + 1 < b) (hb : b ≤ l.length) (hl : l.length < 1099511627776) (s2 : SortedOn l (a + 1) b) {K : ARes → List AO → Prop}
    (k : ∀ l', SortedOn l' a b → Rng a b l l' → K (.ok (.tup [])) (HB h id l')) : W 184 [.msl id 0 l.length l.length, .int .i64 a, .int .i64 (a + 1 : Nat), .int .i64 b, cmpV] (HB h id l) K := by
  have w1 : IntKind.i64.wrap (((a + 1 : Nat) : Int) - (a : Int)) = 1 := by rw [wrap_i64 _ (by omega) (by omega)]; omega
  refine W_of mixed c184 (by simp [A184]) ?_
  have w1' : IntKind.i64.wrap ((a : Int) + 1 - (a : Int)) = 1 := by rw [wrap_i64 _ (by omega) (by omega)]; omega
  simp [A184, w1, w1']
  refine lp_indE (ι := Nat × Nat) (fun s => a + 1 ≤ s.1 ∧ s.1 ≤ s.2 ∧ s.2 ≤ b ∧ (∀ x, a + 1 ≤ x → x < s.1 → tg l x ≤ tg l a) ∧ ∀ x, s.2 ≤ x → x < b → tg l a ≤ tg l x) (fun s => s.2 - s.1)
    (fun s => [(0, .msl id 0 l.length l.length), (1, .int .i64 (a : Int)), (4, cmpV), (10, .int .i64 (s.1 : Int)), (11, .int .i64 (s.2 : Int))]) (fun s => HB h id l) ?_ (a + 1, b) ⟨by simp, by simp; omega, by simp, fun x h1 h2 => by simp at h2; omega, fun x h1 h2 => by simp at h1; omega⟩ (by simp) rfl
  rintro ⟨i, j⟩ ⟨hi, hij, hj, hI, hJ⟩ ih
  simp only at hi hij hj hI hJ ih ⊢
  have v1 : IntKind.i64.wrap ((i : Int) + (j : Int)) = ((i + j : Nat) : Int) := by rw [wrap_i64 _ (by omega) (by omega)]; omega
  have v2 : IntKind.wrap .u64 ((i : Int) + (j : Int)) = ((i + j : Nat) : Int) := by rw [← wrap_u64 (n := i + j) (by omega)]; congr 1
  by_cases hlt : i < j
  · obtain ⟨c, hc⟩ : ∃ c, c = (i + j) / 2 := ⟨_, rfl⟩
    have v3 := half (i := i) (j := j) (by omega)
    rw [← hc] at v3
    have wc := wrap_succ (i := c) (by omega)
    have p1 : ¬ ((c : Int) < 0) := by omega
    have p2 : ¬ ((a : Int) < 0) := by omega
    have j1 : c < l.length := by omega
    have j2 : a < l.length := by omega
    have r1 := fcL_get (l := l) (i := c) (by omega)
    have r2 := fcL_get (l := l) (i := a) (by omega)
    have b1 : c * 5 ≤ l.length * 5 := by omega
    have b2 : a * 5 ≤ l.length * 5 := by omega
    have d1 : 5 ≤ l.length * 5 - c * 5 := by omega
    have d2 : 5 ≤ l.length * 5 - a * 5 := by omega
    simp [uf A184_l0.eq_1, hlt, v1, v2, v3, hid, p1, p2, j1, j2, fcL_len, r1, r2, b1, b2, d1, d2]
    refine ⟨_, _, wLess ⟨rfl, rfl⟩, ?_⟩
    simp [cmpI_neg]
    by_cases ht : l[c].tag < l[a].tag
    · have ht' : tg l c < tg l a := by rw [tg_of j1, tg_of j2]; exact ht
      simp [ht, wc]
      have := ih (c + 1, j) ⟨by simp; omega, by simp; omega, hj, fun x h1 h2 => ?_, hJ⟩ (by simp; omega)
      · simpa using this
      · simp only at h2
        rcases Nat.eq_or_lt_of_le (show x ≤ c by omega) with rfl | h3
        · omega
        · have := s2 x c h1 h3 (by omega); omega
    · have ht' : tg l a ≤ tg l c := by rw [tg_of j1, tg_of j2]; omega
      simp [ht]
      refine ih (i, c) ⟨hi, by simp; omega, by simp; omega, hI, fun x h1 h2 => ?_⟩ (by simp; omega)
      simp only at h1
      rcases Nat.eq_or_lt_of_le h1 with rfl | h3
      · exact ht'
      · have := s2 c x (by omega) h3 h2; omega
  · have : i = j := by omega
    subst this
    have v3 : IntKind.i64.wrap ((i : Int) - 1) = ((i - 1 : Nat) : Int) := by rw [wrap_i64 _ (by omega) (by omega)]; omega
    simp [uf A184_l0.eq_1, uf A184_r0.eq_1]
    refine lp_indE (ι := Nat × List Fld) (fun s => a + s.1 < i ∧ Rot a (a + 1) (a + 1 + s.1) l s.2) (fun s => i - s.1)
      (fun s => [(0, .msl id 0 l.length l.length), (10, .int .i64 (i : Int)), (13, .int .i64 ((a + s.1 : Nat) : Int))]) (fun s => HB h id s.2) ?_ (0, l) ⟨by simp; omega, Rot.id l (by omega)⟩ (by simp) rfl
    rintro ⟨t, p⟩ ⟨ht, hR⟩ ih2
    simp only at ht hR ih2 ⊢
    have hp := hR.1.length_eq
    by_cases hlt2 : a + t < i - 1
    · have q1 : (a : Int) + (t : Int) < ((i - 1 : Nat) : Int) := by omega
      have wk := wrap_succ (i := a + t) (by omega)
      have wk' : IntKind.i64.wrap ((a : Int) + (t : Int) + 1) = ((a + t + 1 : Nat) : Int) := by rw [wrap_i64 _ (by omega) (by omega)]; omega
      have p1 : ¬ ((a : Int) + (t : Int) < 0) := by omega
      have p2 : ¬ ((a : Int) + (t : Int) + 1 < 0) := by omega
      have t1 : ((a : Int) + (t : Int)).toNat = a + t := by omega
      have t2 : ((a : Int) + (t : Int) + 1).toNat = a + t + 1 := by omega
      have j1 : a + t < l.length := by omega
      have j2 : a + t + 1 < l.length := by omega
      have r1 := fcL_get (l := p) (i := a + t) (by omega)
      have r2 := fcL_get (l := p) (i := a + t + 1) (by omega)
      have b1 : (a + t) * 5 ≤ l.length * 5 := by omega
      have b2 : (a + t + 1) * 5 ≤ l.length * 5 := by omega
      have d1 : 5 ≤ l.length * 5 - (a + t) * 5 := by omega
      have d2 : 5 ≤ l.length * 5 - (a + t + 1) * 5 := by omega
      have c1 : (a + t) * 5 + 5 ≤ l.length * 5 := by omega
      have c2 : (a + t + 1) * 5 + 5 ≤ l.length * 5 := by omega
      have x1 := fcL_set (l := p) (i := a + t) (by omega) p[a + t + 1]
      have x2 := fcL_set (l := p.set (a + t) p[a + t + 1]) (i := a + t + 1) (by simp; omega) p[a + t]
      simp only [fc, List.cons_append, List.nil_append] at x1 x2
      have L := ih2 (t + 1, swp p (a + t) (a + t + 1)) ⟨by simp; omega, rot_up hR (by omega)⟩ (by simp; omega)
      rw [swp_eq (by omega) (by omega)] at L
      have en : ((a + (t + 1) : Nat) : Int) = (a : Int) + (t : Int) + 1 := by omega
      simp only [en] at L
      simp [uf A184_l1.eq_1, v3, q1, hid, wk', p1, p2, t1, t2, j1, j2, fcL_len, hp, r1, r2, b1, b2, d1, d2, c1, c2, x1, x2]
      exact L
    · have q1 : ¬ ((a : Int) + (t : Int) < ((i - 1 : Nat) : Int)) := by omega
      simp [uf A184_l1.eq_1, v3, q1]
      have e : a + 1 + t = i := by omega
      rw [e] at hR
      refine .inl (k p (rot_sorted hR (Nat.le_refl _) (by omega) (by omega) hj (fun x y h1 h2 h3 => by omega) s2 (fun x y h1 h2 => by omega) (fun x y h1 h2 h3 h4 => ?_) (fun x y h1 h2 h3 h4 => ?_) (fun x y h1 h2 => by omega)) (hR.rng (Nat.le_refl _) hj (by omega) (by omega)))
      · obtain rfl : x = a := by omega
        exact hI y h3 h4
      · obtain rfl : x = a := by omega
        exact hJ y h3 h4
end Go.Proofs.YtjljhmeadfejhaaGreat

/- Sorting rows of fields: symMerge, one field behind. -/
set_option maxRecDepth 100000
set_option linter.unusedVariables false
set_option linter.unusedSimpArgs false
namespace Go.Proofs.YtjljhmeadfejhaaGreat
open Go.Eng
theorem symB {h : List AO} {id : Nat} (hid : id < h.length) {l : List Fld} {a m : Nat} (ham : a < m) (hA : m - a ≠ 1) (hb : m + 1 ≤ l.length) (hl : l.length < 1099511627776) (s1 : SortedOn l a m) {K : ARes → List AO → Prop}
    (k : ∀ l', SortedOn l' a (m + 1) → Rng a (m + 1) l l' → K (.ok (.tup [])) (HB h id l')) : W 184 [.msl id 0 l.length l.length, .int .i64 a, .int .i64 m, .int .i64 (m + 1 : Nat), cmpV] (HB h id l) K := by
  have w1 : IntKind.i64.wrap ((m : Int) - (a : Int)) = ((m - a : Nat) : Int) := by rw [wrap_i64 _ (by omega) (by omega)]; omega
  have w2 : IntKind.i64.wrap ((m : Int) + 1 - (m : Int)) = 1 := by rw [wrap_i64 _ (by omega) (by omega)]; omega
  have hA' : ¬ ((m - a : Nat) : Int) = 1 := by omega
  refine W_of mixed c184 (by simp [A184]) ?_
  simp [A184, w1, hA']
  simp [uf A184_r4.eq_1, w2]
  refine lp_indE (ι := Nat × Nat) (fun s => a ≤ s.1 ∧ s.1 ≤ s.2 ∧ s.2 ≤ m ∧ (∀ x, a ≤ x → x < s.1 → tg l x ≤ tg l m) ∧ ∀ x, s.2 ≤ x → x < m → tg l m ≤ tg l x) (fun s => s.2 - s.1)
    (fun s => [(0, .msl id 0 l.length l.length), (2, .int .i64 (m : Int)), (4, cmpV), (14, .int .i64 (s.1 : Int)), (15, .int .i64 (s.2 : Int))]) (fun s => HB h id l) ?_ (a, m) ⟨by simp, by simp; omega, by simp, fun x h1 h2 => by simp at h2; omega, fun x h1 h2 => by simp at h1; omega⟩ (by simp) rfl
  rintro ⟨i, j⟩ ⟨hi, hij, hj, hI, hJ⟩ ih
  simp only at hi hij hj hI hJ ih ⊢
  have v1 : IntKind.i64.wrap ((i : Int) + (j : Int)) = ((i + j : Nat) : Int) := by rw [wrap_i64 _ (by omega) (by omega)]; omega
  have v2 : IntKind.wrap .u64 ((i : Int) + (j : Int)) = ((i + j : Nat) : Int) := by rw [← wrap_u64 (n := i + j) (by omega)]; congr 1
  by_cases hlt : i < j
  · obtain ⟨c, hc⟩ : ∃ c, c = (i + j) / 2 := ⟨_, rfl⟩
    have v3 := half (i := i) (j := j) (by omega)
    rw [← hc] at v3
    have wc := wrap_succ (i := c) (by omega)
    have p1 : ¬ ((c : Int) < 0) := by omega
    have p2 : ¬ ((m : Int) < 0) := by omega
    have j1 : c < l.length := by omega
    have j2 : m < l.length := by omega
    have r1 := fcL_get (l := l) (i := c) (by omega)
    have r2 := fcL_get (l := l) (i := m) (by omega)
    have b1 : c * 5 ≤ l.length * 5 := by omega
    have b2 : m * 5 ≤ l.length * 5 := by omega
    have d1 : 5 ≤ l.length * 5 - c * 5 := by omega
    have d2 : 5 ≤ l.length * 5 - m * 5 := by omega
    simp [uf A184_l2.eq_1, hlt, v1, v2, v3, hid, p1, p2, j1, j2, fcL_len, r1, r2, b1, b2, d1, d2]
    refine ⟨_, _, wLess ⟨rfl, rfl⟩, ?_⟩
    simp [cmpI_neg]
    by_cases ht : l[m].tag < l[c].tag
    · have ht' : tg l m < tg l c := by rw [tg_of j1, tg_of j2]; exact ht
      simp [ht]
      refine ih (i, c) ⟨hi, by simp; omega, by simp; omega, hI, fun x h1 h2 => ?_⟩ (by simp; omega)
      simp only at h1
      rcases Nat.eq_or_lt_of_le h1 with rfl | h3
      · omega
      · have := s1 c x (by omega) h3 h2; omega
    · have ht' : tg l c ≤ tg l m := by rw [tg_of j1, tg_of j2]; omega
      simp [ht, wc]
      have := ih (c + 1, j) ⟨by simp; omega, by simp; omega, hj, fun x h1 h2 => ?_, hJ⟩ (by simp; omega)
      · simpa using this
      · simp only at h2
        rcases Nat.eq_or_lt_of_le (show x ≤ c by omega) with rfl | h3
        · exact ht'
        · have := s1 x c h1 h3 (by omega); omega
  · have : i = j := by omega
    subst this
    simp [uf A184_l2.eq_1, uf A184_r1.eq_1]
    refine lp_indE (ι := Nat × List Fld) (fun s => i ≤ s.1 ∧ s.1 ≤ m ∧ Rot s.1 m (m + 1) l s.2) (fun s => s.1)
      (fun s => [(0, .msl id 0 l.length l.length), (14, .int .i64 (i : Int)), (17, .int .i64 (s.1 : Int))]) (fun s => HB h id s.2) ?_ (m, l) ⟨by simp; omega, by simp, Rot.id' l⟩ (by simp) rfl
    rintro ⟨t, p⟩ ⟨ht, htm, hR⟩ ih2
    simp only at ht htm hR ih2 ⊢
    have hp := hR.1.length_eq
    by_cases hlt2 : i < t
    · obtain ⟨s, rfl⟩ : ∃ s, t = s + 1 := ⟨t - 1, by omega⟩
      have q1 : (i : Int) < (s : Int) + 1 := by omega
      have wk : IntKind.i64.wrap (s : Int) = (s : Int) := wrap_i64 _ (by omega) (by omega)
      have p1 : ¬ ((s : Int) < 0) := by omega
      have p2 : ¬ ((s : Int) + 1 < 0) := by omega
      have t2 : ((s : Int) + 1).toNat = s + 1 := by omega
      have j1 : s < l.length := by omega
      have j2 : s + 1 < l.length := by omega
      have r1 := fcL_get (l := p) (i := s) (by omega)
      have r2 := fcL_get (l := p) (i := s + 1) (by omega)
      have b1 : s * 5 ≤ l.length * 5 := by omega
      have b2 : (s + 1) * 5 ≤ l.length * 5 := by omega
      have d1 : 5 ≤ l.length * 5 - s * 5 := by omega
      have d2 : 5 ≤ l.length * 5 - (s + 1) * 5 := by omega
      have c1 : s * 5 + 5 ≤ l.length * 5 := by omega
      have c2 : (s + 1) * 5 + 5 ≤ l.length * 5 := by omega
      have x1 := fcL_set (l := p) (i := s + 1) (by omega) p[s]
      have x2 := fcL_set (l := p.set (s + 1) p[s]) (i := s) (by simp; omega) p[s + 1]
      simp only [fc, List.cons_append, List.nil_append] at x1 x2
      have L := ih2 (s, swp p (s + 1) s) ⟨by simp; omega, by simp; omega, rot_down (by omega) hR (by omega)⟩ (by simp)
      rw [swp_eq (by omega) (by omega)] at L
      simp at L
      simp [uf A184_l3.eq_1, q1, hid, wk, p1, p2, t2, j1, j2, fcL_len, hp, r1, r2, b1, b2, d1, d2, c1, c2, x1, x2]
      exact L
    · have e : t = i := by omega
      subst e
      simp [uf A184_l3.eq_1]
      refine .inl (k p (rot_sorted hR hi (by omega) (by omega) (Nat.le_refl _) s1 (fun x y h1 h2 h3 => by omega) (fun x y h1 h2 h3 h4 => ?_) (fun x y h1 h2 h3 h4 => ?_) (fun x y h1 h2 h3 h4 => by omega) (fun x y h1 h2 h3 h4 => by omega)) (hR.rng hi (Nat.le_refl _) (by omega) (by omega)))
      · obtain rfl : y = m := by omega
        exact hI x h1 h2
      · obtain rfl : y = m := by omega
        exact hJ x h1 h2
end Go.Proofs.YtjljhmeadfejhaaGreat

/- Sorting rows of fields: symMerge. -/
set_option maxRecDepth 100000
set_option linter.unusedVariables false
set_option linter.unusedSimpArgs false
namespace Go.Proofs.YtjljhmeadfejhaaGreat
open Go.Eng
/-- What two merges make. -/
def two (l' : List Fld) (l : List Fld) (a b : Nat) : Prop := SortedOn l' a b ∧ Rng a b l l'
set_option maxHeartbeats 8000000 in
theorem symC {h : List AO} {id : Nat} (hid : id < h.length) {n : Nat} (IH : ∀ (l : List Fld) (a m b : Nat), b - a ≤ n → a < m → m < b → b ≤ l.length → l.length < 1099511627776 → SortedOn l a m → SortedOn l m b → ∀ (K : ARes → List AO → Prop),
      (∀ l', SortedOn l' a b → Rng a b l l' → K (.ok (.tup [])) (HB h id l')) → W 184 [.msl id 0 l.length l.length, .int .i64 a, .int .i64 m, .int .i64 b, cmpV] (HB h id l) K)
    {l : List Fld} {a m b : Nat} (hn : b - a ≤ n + 1) (ham : a < m) (hA : m - a ≠ 1) (hmb : m < b) (hB : b - m ≠ 1) (hb : b ≤ l.length) (hl : l.length < 1099511627776) (s1 : SortedOn l a m) (s2 : SortedOn l m b) {K : ARes → List AO → Prop}
    (k : ∀ l', SortedOn l' a b → Rng a b l l' → K (.ok (.tup [])) (HB h id l')) : W 184 [.msl id 0 l.length l.length, .int .i64 a, .int .i64 m, .int .i64 b, cmpV] (HB h id l) K := by
  have w1 : IntKind.i64.wrap ((m : Int) - (a : Int)) = ((m - a : Nat) : Int) := by rw [wrap_i64 _ (by omega) (by omega)]; omega
  have w2 : IntKind.i64.wrap ((b : Int) - (m : Int)) = ((b - m : Nat) : Int) := by rw [wrap_i64 _ (by omega) (by omega)]; omega
  have hA' : ¬ ((m - a : Nat) : Int) = 1 := by omega
  have hB' : ¬ ((b - m : Nat) : Int) = 1 := by omega
  have v1 : IntKind.i64.wrap ((a : Int) + (b : Int)) = (a : Int) + (b : Int) := wrap_i64 _ (by omega) (by omega)
  have v2 : IntKind.wrap .u64 ((a : Int) + (b : Int)) = (a : Int) + (b : Int) := by
    have := wrap_u64 (n := a + b) (by omega)
    simpa using this
  have v3 := half (i := a) (j := b) (by omega)
  obtain ⟨q, hq⟩ : ∃ q, q = (a + b) / 2 := ⟨_, rfl⟩
  rw [← hq] at v3
  have hq1 : a < q := by omega
  have hq2 : q < b := by omega
  have v4 : IntKind.i64.wrap ((q : Int) + (m : Int)) = (q : Int) + (m : Int) := wrap_i64 _ (by omega) (by omega)
  have v6 : IntKind.i64.wrap ((q : Int) + (m : Int) - 1) = (q : Int) + (m : Int) - 1 := wrap_i64 _ (by omega) (by omega)
  have le1 : ∀ x y, a ≤ x → x ≤ y → y < m → tg l x ≤ tg l y := fun x y h1 h2 h3 => by
    rcases Nat.eq_or_lt_of_le h2 with rfl | h4
    · omega
    · exact s1 x y h1 h4 h3
  have le2 : ∀ x y, m ≤ x → x ≤ y → y < b → tg l x ≤ tg l y := fun x y h1 h2 h3 => by
    rcases Nat.eq_or_lt_of_le h2 with rfl | h4
    · omega
    · exact s2 x y h1 h4 h3
  have loop : ∀ s0 r0 : Nat, a ≤ s0 → s0 ≤ r0 → r0 ≤ m → q + m ≤ s0 + b → r0 ≤ q → (s0 = a ∨ s0 + b = q + m) → (r0 = q ∨ r0 = m) →
      LP ⟨intPg Tryz.prog 0 .i64, HB h id l, [], K⟩ [0, 1, 2, 3, 4, 18, 19, 20, 21, 22] A184_l4 [.blk 8, .seq A184_r2]
        [(0, .msl id 0 l.length l.length), (1, .int .i64 (a : Int)), (2, .int .i64 (m : Int)), (3, .int .i64 (b : Int)), (4, cmpV), (18, .int .i64 (q : Int)), (19, .int .i64 ((q : Int) + (m : Int))), (20, .int .i64 (s0 : Int)), (21, .int .i64 (r0 : Int)), (22, .int .i64 ((q : Int) + (m : Int) - 1))] (HB h id l) := by
    intro s0 r0 h1 h2 h3 h4 h5 h6 h7
    refine lp_indE (ι := Nat × Nat) (fun s => s0 ≤ s.1 ∧ s.1 ≤ s.2 ∧ s.2 ≤ r0 ∧ (s.1 = s0 ∨ tg l (s.1 - 1) ≤ tg l (q + m - s.1)) ∧ (s.2 = r0 ∨ tg l (q + m - 1 - s.2) < tg l s.2)) (fun s => s.2 - s.1)
      (fun s => [(0, .msl id 0 l.length l.length), (1, .int .i64 (a : Int)), (2, .int .i64 (m : Int)), (3, .int .i64 (b : Int)), (4, cmpV), (18, .int .i64 (q : Int)), (19, .int .i64 ((q : Int) + (m : Int))), (20, .int .i64 (s.1 : Int)), (21, .int .i64 (s.2 : Int)), (22, .int .i64 ((q : Int) + (m : Int) - 1))])
      (fun s => HB h id l) ?_ (s0, r0) ⟨by simp, h2, by simp, .inl rfl, .inl rfl⟩ rfl rfl
    rintro ⟨s, r⟩ ⟨g1, g2, g3, g4, g5⟩ ih
    simp only at g1 g2 g3 g4 g5 ih ⊢
    have x1 : IntKind.i64.wrap ((s : Int) + (r : Int)) = (s : Int) + (r : Int) := wrap_i64 _ (by omega) (by omega)
    have x2 : IntKind.wrap .u64 ((s : Int) + (r : Int)) = (s : Int) + (r : Int) := by
      have := wrap_u64 (n := s + r) (by omega)
      simpa using this
    by_cases hlt : s < r
    · obtain ⟨c, hc⟩ : ∃ c, c = (s + r) / 2 := ⟨_, rfl⟩
      have x3 := half (i := s) (j := r) (by omega)
      rw [← hc] at x3
      have wc := wrap_succ (i := c) (by omega)
      obtain ⟨d, hd⟩ : ∃ d, d = q + m - 1 - c := ⟨_, rfl⟩
      have x4 : IntKind.i64.wrap ((q : Int) + (m : Int) - 1 - (c : Int)) = (d : Int) := by rw [wrap_i64 _ (by omega) (by omega)]; omega
      have p1 : ¬ ((c : Int) < 0) := by omega
      have p2 : ¬ ((d : Int) < 0) := by omega
      have j1 : c < l.length := by omega
      have j2 : d < l.length := by omega
      have r1 := fcL_get (l := l) (i := c) (by omega)
      have r2 := fcL_get (l := l) (i := d) (by omega)
      have b1 : c * 5 ≤ l.length * 5 := by omega
      have b2 : d * 5 ≤ l.length * 5 := by omega
      have d1 : 5 ≤ l.length * 5 - c * 5 := by omega
      have d2 : 5 ≤ l.length * 5 - d * 5 := by omega
      simp [uf A184_l4.eq_1, hlt, x1, x2, x3, x4, hid, p1, p2, j1, j2, fcL_len, r1, r2, b1, b2, d1, d2]
      refine ⟨_, _, wLess ⟨rfl, rfl⟩, ?_⟩
      simp [cmpI_neg]
      by_cases ht : l[d].tag < l[c].tag
      · simp [ht]
        refine ih (s, c) ⟨g1, by simp; omega, by simp; omega, g4, .inr ?_⟩ (by simp; omega)
        simp only
        rw [← hd, tg_of j1, tg_of j2]; exact ht
      · simp [ht, wc]
        have := ih (c + 1, r) ⟨by simp; omega, by simp; omega, g3, .inr ?_, g5⟩ (by simp; omega)
        · simpa using this
        · simp only
          rw [show c + 1 - 1 = c by omega, show q + m - (c + 1) = d by omega, tg_of j1, tg_of j2]; omega
    · have : s = r := by omega
      subst this
      obtain ⟨e, he⟩ : ∃ e, e = q + m - s := ⟨_, rfl⟩
      have x4 : IntKind.i64.wrap ((q : Int) + (m : Int) - (s : Int)) = (e : Int) := by rw [wrap_i64 _ (by omega) (by omega)]; omega
      simp [uf A184_l4.eq_1, uf A184_r2.eq_1, x4]
      have hem : m ≤ e := by omega
      have heb : e ≤ b := by omega
      have hsm : s ≤ m := by omega
      have has : a ≤ s := by omega
      have hse : s + (e - m) = q := by omega
      have boundAD : a < s → e < b → tg l (s - 1) ≤ tg l e := fun u1 u2 => by
        rcases g4 with g4 | g4
        · omega
        · rw [he]; exact g4
      have boundBC : s < m → m < e → tg l (e - 1) ≤ tg l s := fun u1 u2 => by
        rcases g5 with g5 | g5
        · omega
        · rw [show e - 1 = q + m - 1 - s by omega]; omega
      have D1 : ∀ p, Rot s m e l p → SortedOn p a s ∧ SortedOn p s q := fun p r => by
        refine ⟨fun x y h1 h2 h3 => ?_, fun x y h1 h2 h3 => ?_⟩
        · rw [r.tg, r.tg, rotA (by omega) hsm hem, rotA h3 hsm hem]; exact s1 x y h1 h2 (by omega)
        · rw [r.tg, r.tg, rotB h1 (by omega), rotB (by omega) (by omega)]; exact s2 _ _ (by omega) (by omega) (by omega)
      have D2 : ∀ p p1, Rot s m e l p → Rng a q p p1 → SortedOn p1 q e ∧ SortedOn p1 e b := fun p p1 r g => by
        refine ⟨fun x y h1 h2 h3 => ?_, fun x y h1 h2 h3 => ?_⟩
        · rw [g.tg (.inr h1), g.tg (.inr (by omega)), r.tg, r.tg, rotC (by omega) (by omega), rotC (by omega) h3]; exact s1 _ _ (by omega) (by omega) (by omega)
        · rw [g.tg (.inr (by omega)), g.tg (.inr (by omega)), r.tg, r.tg, rotD h1 hsm hem, rotD (by omega) hsm hem]; exact s2 _ _ (by omega) (by omega) h3
      have cross : ∀ p, Rot s m e l p → ∀ x y, a ≤ x → x < q → q ≤ y → y < b → tg p x ≤ tg p y := fun p r x y h1 h2 h3 h4 => by
        rw [r.tg, r.tg]
        by_cases xA : x < s
        · rw [rotA xA hsm hem]
          by_cases yC : y < e
          · rw [rotC (by omega) yC]; exact le1 _ _ h1 (by omega) (by omega)
          · rw [rotD (by omega) hsm hem]
            exact Int.le_trans (le1 x (s - 1) h1 (by omega) (by omega)) (Int.le_trans (boundAD (by omega) (by omega)) (le2 e y (by omega) (by omega) h4))
        · rw [rotB (by omega) (by omega)]
          by_cases yC : y < e
          · rw [rotC (by omega) yC]
            exact Int.le_trans (le2 _ (e - 1) (by omega) (by omega) (by omega)) (Int.le_trans (boundBC (by omega) (by omega)) (le1 s _ (by omega) (by omega) (by omega)))
          · rw [rotD (by omega) hsm hem]; exact le2 _ _ (by omega) (by omega) h4
      have D3 : ∀ p p1 p2, Rot s m e l p → SortedOn p1 a q → Rng a q p p1 → SortedOn p2 q b → Rng q b p1 p2 → K (.ok (.tup [])) (HB h id p2) := fun p p1 p2 r o1 g1' o2 g2' => by
        have lp : p.length = l.length := r.1.length_eq
        have lp1 : p1.length = l.length := g1'.len.trans lp
        refine k p2 (halves (o1.congr fun x h1 h2 => g2'.tg (.inl h2)) o2 fun x y h1 h2 h3 h4 => ?_) ((r.rng has heb hsm hem).trans ((g1'.wide (Nat.le_refl _) (by omega)).trans (g2'.wide (by omega) (Nat.le_refl _))))
        rw [g2'.tg (.inl h2)]
        obtain ⟨y', k1, k2, k3⟩ := g2'.mem (by omega) (by omega) h3 h4
        obtain ⟨x', k4, k5, k6⟩ := g1'.mem (by omega) (by omega) h1 h2
        rw [k3, k6, g1'.tg (.inr k1)]
        exact cross p r x' y' k4 k5 k1 k2
      by_cases t1 : s < m
      · by_cases t2 : m < e
        · simp [t1, t2]
          refine wRot hid t1 t2 (by omega) hl (fun p hR => ?_)
          simp
          have l0 : p.length = l.length := hR.1.length_eq
          obtain ⟨y1, y2⟩ := D1 p hR
          by_cases u1 : a < s
          · by_cases u2 : s < q
            · simp [u1, u2]
              rw [← l0]
              refine IH p a s q (by omega) u1 u2 (by omega) (by omega) y1 y2 _ (fun p1 o1 r1 => ?_)
              rw [l0]
              simp
              have l1 : p1.length = l.length := r1.len.trans hR.1.length_eq
              obtain ⟨z1, z2⟩ := D2 p p1 hR r1
              by_cases u3 : q < e
              · by_cases u4 : e < b
                · simp [u3, u4]
                  rw [← l1]
                  refine IH p1 q e b (by omega) u3 u4 (by omega) (by omega) z1 z2 _ (fun p2 o3 r3 => ?_)
                  simp
                  exact .inl (D3 p p1 p2 hR o1 r1 o3 r3)
                · simp [u3, u4]
                  have e3 : e = b := by omega
                  have o3 : SortedOn p1 q b := by rw [← e3]; exact z1
                  exact .inl (D3 p p1 p1 hR o1 r1 o3 (Rng.refl _ _ _))
              · simp [u3]
                have e3 : e = q := by omega
                have o3 : SortedOn p1 q b := by rw [← e3]; exact z2
                exact .inl (D3 p p1 p1 hR o1 r1 o3 (Rng.refl _ _ _))
            · simp [u1, u2]
              have e2 : s = q := by omega
              have o1 : SortedOn p a q := by rw [← e2]; exact y1
              have r1 : Rng a q p p := Rng.refl _ _ _
              have l1 : p.length = l.length := r1.len.trans hR.1.length_eq
              obtain ⟨z1, z2⟩ := D2 p p hR r1
              by_cases u3 : q < e
              · by_cases u4 : e < b
                · simp [u3, u4]
                  rw [← l1]
                  refine IH p q e b (by omega) u3 u4 (by omega) (by omega) z1 z2 _ (fun p2 o3 r3 => ?_)
                  simp
                  exact .inl (D3 p p p2 hR o1 r1 o3 r3)
                · simp [u3, u4]
                  have e3 : e = b := by omega
                  have o3 : SortedOn p q b := by rw [← e3]; exact z1
                  exact .inl (D3 p p p hR o1 r1 o3 (Rng.refl _ _ _))
              · simp [u3]
                have e3 : e = q := by omega
                have o3 : SortedOn p q b := by rw [← e3]; exact z2
                exact .inl (D3 p p p hR o1 r1 o3 (Rng.refl _ _ _))
          · simp [u1]
            have e2 : s = a := by omega
            have o1 : SortedOn p a q := by rw [← e2]; exact y2
            have r1 : Rng a q p p := Rng.refl _ _ _
            have l1 : p.length = l.length := r1.len.trans hR.1.length_eq
            obtain ⟨z1, z2⟩ := D2 p p hR r1
            by_cases u3 : q < e
            · by_cases u4 : e < b
              · simp [u3, u4]
                rw [← l1]
                refine IH p q e b (by omega) u3 u4 (by omega) (by omega) z1 z2 _ (fun p2 o3 r3 => ?_)
                simp
                exact .inl (D3 p p p2 hR o1 r1 o3 r3)
              · simp [u3, u4]
                have e3 : e = b := by omega
                have o3 : SortedOn p q b := by rw [← e3]; exact z1
                exact .inl (D3 p p p hR o1 r1 o3 (Rng.refl _ _ _))
            · simp [u3]
              have e3 : e = q := by omega
              have o3 : SortedOn p q b := by rw [← e3]; exact z2
              exact .inl (D3 p p p hR o1 r1 o3 (Rng.refl _ _ _))
        · simp [t1, t2]
          have hR : Rot s m e l l := by rw [show e = m by omega]; exact Rot.id l (by omega)
          have l0 : l.length = l.length := hR.1.length_eq
          obtain ⟨y1, y2⟩ := D1 l hR
          by_cases u1 : a < s
          · by_cases u2 : s < q
            · simp [u1, u2]
              rw [← l0]
              refine IH l a s q (by omega) u1 u2 (by omega) (by omega) y1 y2 _ (fun p1 o1 r1 => ?_)
              rw [l0]
              simp
              have l1 : p1.length = l.length := r1.len.trans hR.1.length_eq
              obtain ⟨z1, z2⟩ := D2 l p1 hR r1
              by_cases u3 : q < e
              · by_cases u4 : e < b
                · simp [u3, u4]
                  rw [← l1]
                  refine IH p1 q e b (by omega) u3 u4 (by omega) (by omega) z1 z2 _ (fun p2 o3 r3 => ?_)
                  simp
                  exact .inl (D3 l p1 p2 hR o1 r1 o3 r3)
                · simp [u3, u4]
                  have e3 : e = b := by omega
                  have o3 : SortedOn p1 q b := by rw [← e3]; exact z1
                  exact .inl (D3 l p1 p1 hR o1 r1 o3 (Rng.refl _ _ _))
              · simp [u3]
                have e3 : e = q := by omega
                have o3 : SortedOn p1 q b := by rw [← e3]; exact z2
                exact .inl (D3 l p1 p1 hR o1 r1 o3 (Rng.refl _ _ _))
            · simp [u1, u2]
              have e2 : s = q := by omega
              have o1 : SortedOn l a q := by rw [← e2]; exact y1
              have r1 : Rng a q l l := Rng.refl _ _ _
              have l1 : l.length = l.length := r1.len.trans hR.1.length_eq
              obtain ⟨z1, z2⟩ := D2 l l hR r1
              by_cases u3 : q < e
              · by_cases u4 : e < b
                · simp [u3, u4]
                  rw [← l1]
                  refine IH l q e b (by omega) u3 u4 (by omega) (by omega) z1 z2 _ (fun p2 o3 r3 => ?_)
                  simp
                  exact .inl (D3 l l p2 hR o1 r1 o3 r3)
                · simp [u3, u4]
                  have e3 : e = b := by omega
                  have o3 : SortedOn l q b := by rw [← e3]; exact z1
                  exact .inl (D3 l l l hR o1 r1 o3 (Rng.refl _ _ _))
              · simp [u3]
                have e3 : e = q := by omega
                have o3 : SortedOn l q b := by rw [← e3]; exact z2
                exact .inl (D3 l l l hR o1 r1 o3 (Rng.refl _ _ _))
          · simp [u1]
            have e2 : s = a := by omega
            have o1 : SortedOn l a q := by rw [← e2]; exact y2
            have r1 : Rng a q l l := Rng.refl _ _ _
            have l1 : l.length = l.length := r1.len.trans hR.1.length_eq
            obtain ⟨z1, z2⟩ := D2 l l hR r1
            by_cases u3 : q < e
            · by_cases u4 : e < b
              · simp [u3, u4]
                rw [← l1]
                refine IH l q e b (by omega) u3 u4 (by omega) (by omega) z1 z2 _ (fun p2 o3 r3 => ?_)
                simp
                exact .inl (D3 l l p2 hR o1 r1 o3 r3)
              · simp [u3, u4]
                have e3 : e = b := by omega
                have o3 : SortedOn l q b := by rw [← e3]; exact z1
                exact .inl (D3 l l l hR o1 r1 o3 (Rng.refl _ _ _))
            · simp [u3]
              have e3 : e = q := by omega
              have o3 : SortedOn l q b := by rw [← e3]; exact z2
              exact .inl (D3 l l l hR o1 r1 o3 (Rng.refl _ _ _))
      · simp [t1]
        have hR : Rot s m e l l := by rw [show s = m by omega]; exact Rot.id' l
        have l0 : l.length = l.length := hR.1.length_eq
        obtain ⟨y1, y2⟩ := D1 l hR
        by_cases u1 : a < s
        · by_cases u2 : s < q
          · simp [u1, u2]
            rw [← l0]
            refine IH l a s q (by omega) u1 u2 (by omega) (by omega) y1 y2 _ (fun p1 o1 r1 => ?_)
            rw [l0]
            simp
            have l1 : p1.length = l.length := r1.len.trans hR.1.length_eq
            obtain ⟨z1, z2⟩ := D2 l p1 hR r1
            by_cases u3 : q < e
            · by_cases u4 : e < b
              · simp [u3, u4]
                rw [← l1]
                refine IH p1 q e b (by omega) u3 u4 (by omega) (by omega) z1 z2 _ (fun p2 o3 r3 => ?_)
                simp
                exact .inl (D3 l p1 p2 hR o1 r1 o3 r3)
              · simp [u3, u4]
                have e3 : e = b := by omega
                have o3 : SortedOn p1 q b := by rw [← e3]; exact z1
                exact .inl (D3 l p1 p1 hR o1 r1 o3 (Rng.refl _ _ _))
            · simp [u3]
              have e3 : e = q := by omega
              have o3 : SortedOn p1 q b := by rw [← e3]; exact z2
              exact .inl (D3 l p1 p1 hR o1 r1 o3 (Rng.refl _ _ _))
          · simp [u1, u2]
            have e2 : s = q := by omega
            have o1 : SortedOn l a q := by rw [← e2]; exact y1
            have r1 : Rng a q l l := Rng.refl _ _ _
            have l1 : l.length = l.length := r1.len.trans hR.1.length_eq
            obtain ⟨z1, z2⟩ := D2 l l hR r1
            by_cases u3 : q < e
            · by_cases u4 : e < b
              · simp [u3, u4]
                rw [← l1]
                refine IH l q e b (by omega) u3 u4 (by omega) (by omega) z1 z2 _ (fun p2 o3 r3 => ?_)
                simp
                exact .inl (D3 l l p2 hR o1 r1 o3 r3)
              · simp [u3, u4]
                have e3 : e = b := by omega
                have o3 : SortedOn l q b := by rw [← e3]; exact z1
                exact .inl (D3 l l l hR o1 r1 o3 (Rng.refl _ _ _))
            · simp [u3]
              have e3 : e = q := by omega
              have o3 : SortedOn l q b := by rw [← e3]; exact z2
              exact .inl (D3 l l l hR o1 r1 o3 (Rng.refl _ _ _))
        · simp [u1]
          have e2 : s = a := by omega
          have o1 : SortedOn l a q := by rw [← e2]; exact y2
          have r1 : Rng a q l l := Rng.refl _ _ _
          have l1 : l.length = l.length := r1.len.trans hR.1.length_eq
          obtain ⟨z1, z2⟩ := D2 l l hR r1
          by_cases u3 : q < e
          · by_cases u4 : e < b
            · simp [u3, u4]
              rw [← l1]
              refine IH l q e b (by omega) u3 u4 (by omega) (by omega) z1 z2 _ (fun p2 o3 r3 => ?_)
              simp
              exact .inl (D3 l l p2 hR o1 r1 o3 r3)
            · simp [u3, u4]
              have e3 : e = b := by omega
              have o3 : SortedOn l q b := by rw [← e3]; exact z1
              exact .inl (D3 l l l hR o1 r1 o3 (Rng.refl _ _ _))
          · simp [u3]
            have e3 : e = q := by omega
            have o3 : SortedOn l q b := by rw [← e3]; exact z2
            exact .inl (D3 l l l hR o1 r1 o3 (Rng.refl _ _ _))
  refine W_of mixed c184 (by simp [A184]) ?_
  simp [A184, w1, hA']
  simp [uf A184_r4.eq_1, w2, hB']
  by_cases hqm : q < m
  · have v5 : IntKind.i64.wrap ((q : Int) + (m : Int) - (b : Int)) = (q : Int) + (m : Int) - (b : Int) := wrap_i64 _ (by omega) (by omega)
    have e : (q : Int) + (m : Int) - (b : Int) = ((q + m - b : Nat) : Int) := by omega
    simp [uf A184_r3.eq_1, v1, v2, v3, v4, v5, v6, hqm]
    rw [e]
    exact loop (q + m - b) q (by omega) (by omega) (by omega) (by omega) (by omega) (by omega) (by omega)
  · simp [uf A184_r3.eq_1, v1, v2, v3, v4, v6, hqm]
    exact loop a m (by omega) (by omega) (by omega) (by omega) (by omega) (by omega) (by omega)
end Go.Proofs.YtjljhmeadfejhaaGreat

/- Sorting rows of fields: SortStableFunc on at most 30. -/
set_option maxRecDepth 100000
set_option linter.unusedVariables false
set_option linter.unusedSimpArgs false
namespace Go.Proofs.YtjljhmeadfejhaaGreat
open Go.Eng
theorem wSym {h : List AO} {id : Nat} (hid : id < h.length) : ∀ (n : Nat) (l : List Fld) (a m b : Nat), b - a ≤ n → a < m → m < b → b ≤ l.length → l.length < 1099511627776 → SortedOn l a m → SortedOn l m b → ∀ (K : ARes → List AO → Prop),
    (∀ l', SortedOn l' a b → Rng a b l l' → K (.ok (.tup [])) (HB h id l')) → W 184 [.msl id 0 l.length l.length, .int .i64 a, .int .i64 m, .int .i64 b, cmpV] (HB h id l) K := by
  intro n
  induction n with
  | zero => intro l a m b hn h1 h2; omega
  | succ n IH =>
    intro l a m b hn ham hmb hb hl s1 s2 K k
    by_cases hA : m - a = 1
    · obtain rfl : m = a + 1 := by omega
      exact symA hid hmb hb hl s2 k
    · by_cases hB : b - m = 1
      · obtain rfl : b = m + 1 := by omega
        exact symB hid ham hA hb hl s1 k
      · exact symC hid IH hn ham hA hmb hB hb hl s1 s2 k
theorem wStable {h : List AO} {id : Nat} (hid : id < h.length) {l : List Fld} (hl : l.length ≤ 30) {K : ARes → List AO → Prop} (k : ∀ l', SortedOn l' 0 l.length → l'.Perm l → K (.ok (.tup [])) (HB h id l')) :
    W 140 [.msl id 0 l.length l.length, .int .i64 (l.length : Int), cmpV] (HB h id l) K := by
  refine W_of mixed c140 (by simp [A140]) ?_
  simp [A140]
  by_cases h20 : 20 ≤ l.length
  · refine lp_step ?_
    simp [uf A140_l0.eq_1, show (20 : Int) ≤ (l.length : Int) by omega]
    refine wIns' (a := 0) (b := 20) hid (by omega) (by omega) (by omega) (fun p o r => ?_)
    have w40 : IntKind.i64.wrap 40 = 40 := rfl
    simp [w40]
    refine lp_step ?_
    have e1 : ¬ ((40 : Int) ≤ (l.length : Int)) := by omega
    have lp : p.length = l.length := r.len
    simp [uf A140_l0.eq_1, e1]
    simp [uf A140_r1.eq_1]
    rw [← lp]
    refine wIns' (a := 20) (b := p.length) hid (by omega) (Nat.le_refl _) (by omega) (fun p1 o1 r1 => ?_)
    have lp1 : p1.length = l.length := r1.len.trans lp
    rw [lp]
    simp
    refine lp_step ?_
    by_cases h21 : 20 < l.length
    · have e2 : (20 : Int) < (l.length : Int) := by omega
      simp [uf A140_l2.eq_1, e2, w40]
      refine lp_step ?_
      simp [uf A140_l1.eq_1, e1]
      have w20 : IntKind.i64.wrap 20 = 20 := rfl
      simp [uf A140_r0.eq_1, w20, e2]
      rw [← lp1]
      refine wSym hid p1.length p1 0 20 p1.length (by omega) (by omega) (by omega) (Nat.le_refl _) (by omega) ?_ ?_ _ (fun p2 o2 r2 => ?_)
      · exact o.congr fun x h1 h2 => r1.tg (.inl h2)
      · rw [lp1, ← lp]; exact o1
      · rw [lp1] at o2 ⊢
        simp [w40]
        refine lp_step ?_
        have e3 : ¬ ((40 : Int) < (l.length : Int)) := by omega
        simp [uf A140_l2.eq_1, e3]
        exact .inl (k p2 o2 (r2.perm.trans (r1.perm.trans r.perm)))
    · have e2 : ¬ ((20 : Int) < (l.length : Int)) := by omega
      simp [uf A140_l2.eq_1, e2]
      refine .inl (k p1 ?_ (r1.perm.trans r.perm))
      rw [show l.length = 20 by omega]
      exact o.congr fun x h1 h2 => r1.tg (.inl h2)
  · refine lp_step ?_
    have e1 : ¬ ((20 : Int) ≤ (l.length : Int)) := by omega
    simp [uf A140_l0.eq_1, e1]
    simp [uf A140_r1.eq_1]
    refine wIns' (a := 0) (b := l.length) hid (by omega) (Nat.le_refl _) (by omega) (fun p1 o1 r1 => ?_)
    simp
    refine lp_step ?_
    have e2 : ¬ ((20 : Int) < (l.length : Int)) := by omega
    simp [uf A140_l2.eq_1, e2]
    exact .inl (k p1 o1 r1.perm)
theorem wSort {h : List AO} {id : Nat} (hid : id < h.length) {l : List Fld} (hl : l.length ≤ 30) {K : ARes → List AO → Prop} (k : ∀ l', SortedOn l' 0 l.length → l'.Perm l → K (.ok (.tup [])) (HB h id l')) :
    W 83 [.msl id 0 l.length l.length, cmpV] (HB h id l) K := by
  refine W_of mixed c83 (by simp [A83]) ?_
  simp [A83]
  refine wStable hid hl (fun l' o p => ?_)
  simp
  exact .inl (k l' o p)
end Go.Proofs.YtjljhmeadfejhaaGreat

/- desc.fields of a row that may be written. -/
set_option maxRecDepth 100000
set_option linter.unusedVariables false
set_option linter.unusedSimpArgs false
namespace Go.Proofs.YtjljhmeadfejhaaGreat
open Go.Eng
theorem wFieldsM {fs : List Fld} (hl : fs.length < 1099511627776) (hf : ∀ f ∈ fs, f.ty.few) {h : List AO} {id : Nat} (hb : h[id]? = some (.box (fcL fs))) {K : ARes → List AO → Prop} (k : K (.ok (rowV (fs.map Fld.av))) h) : W 46 [.msl id 0 fs.length fs.length] h K := by
  have hid := (List.getElem?_eq_some_iff.1 hb).1
  refine W_of mixed c46 (by simp [A46]) ?_
  simp [A46]
  refine lp_ind (ι := Nat) (fun i => i ≤ fs.length) (fun i => fs.length - i) (fun i => [(3, fldsV h fs i), (6, .msl id 0 fs.length fs.length), (7, .int .i64 (fs.length : Int)), (8, .int .i64 (i : Int))]) (fun i => fldsH h fs i) ?_ 0 (by simp)
  intro i hi ih
  have hw := wrap_succ (i := i) (by omega)
  by_cases hlt : i < fs.length
  · have IHi := ih (i + 1) (by omega) (by omega)
    have hfi := hf _ (List.getElem_mem hlt)
    have hbi : (fldsH h fs i)[id]? = some (.box (fcL fs)) := by
      cases i with
      | zero => exact hb
      | succ n => rw [fldsH, List.getElem?_append_left hid]; exact hb
    have z1 : ¬ ((i : Int) < 0) := by omega
    have z2 : i * 5 ≤ fs.length * 5 := by omega
    have z3 : 5 ≤ fs.length * 5 - i * 5 := by omega
    have z4 := fcL_get hlt
    have h0 : ∃ u0, fs.head? = some u0 := by cases he : fs <;> simp [he] at hlt ⊢
    obtain ⟨u0, h0⟩ := h0
    have e1 : List.take (i + 1) (List.map Fld.av fs) = List.take i (List.map Fld.av fs) ++ [.agg [.int .i64 fs[i].tag, .str fs[i].name, .int .i64 fs[i].ty.kind, .str fs[i].ty.name, .rsl (fs[i].ty.of.map Ty.av)]] := by
      rw [List.take_succ_eq_append_getElem (by simpa using hlt)]
      simp [Fld.av]
    rcases Nat.eq_zero_or_pos i with rfl | hpos
    · have h00 : fs[0] = u0 := by
        have : fs[0]? = some u0 := by rw [← List.head?_eq_getElem?]; exact h0
        rw [List.getElem?_eq_getElem hlt] at this
        injection this
      simp [fldsH, fldsV, h0, ← h00] at IHi
      rw [e1] at IHi
      simp at IHi
      simp [fldsH] at hbi z2 z3 z4
      simp [uf A46_l0.eq_1, hlt, fldsH, fldsV, Fld.av, hbi, fcL_len, z3, z4]
      refine wOwn _ fs[0].ty (Nat.le_refl _) _ _ hfi ?_
      simp [appA, IntKind.wrap]
      exact IHi
    · have hb : (i + 1) * 72 ≤ 140737488355328 := by omega
      simp [fldsH, fldsV, h0] at IHi
      rw [e1] at IHi
      rw [fldsH_pos hpos] at hbi ⊢
      have hbi2 := hbi
      simp [uf A46_l0.eq_1, hlt, fldsV_pos hpos, Fld.av, hbi, fcL_len, z1, z2, z3, z4]
      refine wOwn _ fs[i].ty (Nat.le_refl _) _ _ hfi ?_
      simp [appA, hw, Nat.min_eq_left hi, hb, h0]
      refine lp_cut 2 ?_ (by simp [show id < h.length + 2 by omega]; rfl) ?_
      · simp [AO.bel, belL, AV.bel]
      · simpa using IHi
  · have : i = fs.length := by omega
    subst this
    rcases Nat.eq_zero_or_pos fs.length with hz | hpos
    · have hn : fs = [] := List.eq_nil_of_length_eq_zero hz
      subst hn
      simp [uf A46_l0.eq_1, uf A46_r0.eq_1, fldsH, fldsV]
      exact .inl k
    · have hne : fs.map Fld.av ≠ [] := fun e => by simp at e; rw [e] at hpos; simp at hpos
      simp [uf A46_l0.eq_1, uf A46_r0.eq_1, fldsH_pos hpos, fldsV_pos hpos]
      refine .inr ⟨h.length, 3, rowV (fs.map Fld.av), DropOk.app h _, by simp [out, List.take_of_length_le, rowV_ne hne], by simpa using k⟩
end Go.Proofs.YtjljhmeadfejhaaGreat

/- Sorting an empty row. -/
set_option maxRecDepth 100000
set_option linter.unusedVariables false
set_option linter.unusedSimpArgs false
namespace Go.Proofs.YtjljhmeadfejhaaGreat
open Go.Eng
theorem wInsNil {h : List AO} {K : ARes → List AO → Prop} (k : K (.ok (.tup [])) h) : W 183 [.rsl [], .int .i64 0, .int .i64 0, cmpV] h K := by
  refine W_of mixed c183 (by simp [A183]) ?_
  have w1 : IntKind.i64.wrap 1 = 1 := rfl
  simp [A183, w1]
  refine lp_step ?_
  simp [uf A183_l1.eq_1]
  exact .inl k
theorem wSortNil {h : List AO} {K : ARes → List AO → Prop} (k : K (.ok (.tup [])) h) : W 83 [.rsl [], cmpV] h K := by
  refine W_of mixed c83 (by simp [A83]) ?_
  simp [A83]
  refine W_of mixed c140 (by simp [A140]) ?_
  simp [A140]
  refine lp_step ?_
  simp [uf A140_l0.eq_1]
  simp [uf A140_r1.eq_1]
  refine wInsNil ?_
  simp
  refine lp_step ?_
  simp [uf A140_l2.eq_1]
  refine .inl ?_
  simp
  exact .inl k
end Go.Proofs.YtjljhmeadfejhaaGreat
