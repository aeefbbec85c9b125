/- The engine, part 18: regions whose order is drawn. -/
import Derived.Test.YtjljhmeadfejhaaDoorE17
set_option linter.unusedVariables false
set_option linter.unusedSimpArgs false
namespace Go.Eng

/-- What the checker of a drawn region has seen. -/
structure Drawn (P : Program) (N : Nat) (ops : Array Oper) (aops : List AOper) (re : List (Nat × Nat)) (pre : Nat → Nat → Prop) : Prop where
  size : aops.length = ops.size
  opc : ∀ (j : Nat) (ao : AOper) (o : Oper), aops[j]? = some ao → ops[j]? = some o → OpC P N ops o ao
  back : ∀ (i : Nat) (o : Oper), ops[i]? = some o → ∀ e ∈ o.after, Region.binds .any e = true → e.on < i
  pre_ok : ∀ (listed : Nat → Bool), (∀ (i : Nat) (o : Oper), ops[i]? = some o → listed i = true → ∀ e ∈ o.after, Region.binds .any e = true → listed e.on = true) → ∀ i j, pre i j → listed i = true → listed j = true
  pre_ready : ∀ (listed : Nat → Bool), (∀ (i : Nat) (o : Oper), ops[i]? = some o → listed i = true → ∀ e ∈ o.after, Region.binds .any e = true → listed e.on = true) → ∀ i o, ops[i]? = some o → (∀ e ∈ o.after, Region.binds .any e = true → listed e.on = true) → ∀ j, pre i j → listed j = true
  dist : ∀ (i j : Nat) (x y : AOper) (t : Nat), aops[i]? = some x → aops[j]? = some y → x.dst = some t → y.dst = some t → i = j
  reads : ∀ (i p : Nat) (x y : AOper) (t : Nat), aops[i]? = some x → aops[p]? = some y → t ∈ x.uses → y.dst = some t → p = i ∨ (p < i ∧ pre i p) ∨ (i < p ∧ pre p i)
  effs : ∀ (i j : Nat) (x y : AOper), i < j → aops[i]? = some x → aops[j]? = some y → x.op.eff = true → y.op.eff = true → pre j i
  pairs : ∀ (i k : Nat) (x y : AOper), aops[i]? = some x → aops[k]? = some y → x.op.eff = false → x.op.rd = true → y.op.eff = true → (i, k) ∈ re ∨ (k < i ∧ pre i k) ∨ (i < k ∧ pre k i)

theorem Tr_get {P : Pg} : ∀ (l : List AOper) (f : Fr) (h : List AO) (tr : List (Fr × List AO)) (f' : Fr) (h' : List AO), Tr P l f h tr f' h' →
    ∃ (F : Nat → Fr) (H : Nat → List AO) (X : Nat → AV), (∀ i, i ≤ l.length → tr[i]? = some (F i, H i)) ∧ F 0 = f ∧ H 0 = h ∧ F l.length = f' ∧ H l.length = h' ∧
      ∀ (i : Nat) (op : AOper), l[i]? = some op → op1 P (F i) (H i) op (fun r h2 => r = .ok (X i) ∧ h2 = H (i + 1)) ∧ F (i + 1) = put (F i) op.dst (X i)
  | [], f, h, tr, f', h', T => by
    obtain ⟨rfl, rfl, rfl⟩ := T
    exact ⟨fun _ => f', fun _ => h', fun _ => .undef, fun i hi => by simp at hi; subst hi; rfl, rfl, rfl, rfl, rfl, fun i op e => by simp at e⟩
  | op :: l, f, h, tr, f', h', T => by
    obtain ⟨x, h1, tr', k1, rfl, k2⟩ := T
    obtain ⟨F, H, X, a1, a2, a3, a4, a5, a6⟩ := Tr_get l _ _ _ _ _ k2
    refine ⟨fun i => match i with | 0 => f | i + 1 => F i, fun i => match i with | 0 => h | i + 1 => H i, fun i => match i with | 0 => x | i + 1 => X i, fun i hi => ?_, rfl, rfl, a4, a5, fun i o e => ?_⟩
    · cases i with
      | zero => rfl
      | succ i => simpa using a1 i (by simpa using hi)
    · cases i with
      | zero => simp at e; subst e; simp only [a2, a3]; exact ⟨k1, trivial⟩
      | succ i => exact a6 i o (by simpa using e)

section
variable {P : Pg} {N : Nat}

theorem drawn_ok {ops : Array Oper} {aops : List AOper} {re : List (Nat × Nat)} {pre : Nat → Nat → Prop} (D : Drawn P N ops aops re pre) : DrawnOk P N ops aops re := by
  intro h0 φ0 w0 S0 V0 Kf Q' hQn a w ⟨f, h, φ, S, ⟨tr, f', h', T, DO, hK⟩, M, E, F0, hd, hN⟩
  obtain ⟨F, H, X, t1, t2, t3, t4, t5, t6⟩ := Tr_get aops f h tr f' h' T
  have hn : aops.length = ops.size := D.size
  -- the sequential frames
  have seqF : ∀ m, m ≤ aops.length → (∀ i (o : AOper) t, i < m → aops[i]? = some o → o.dst = some t → lk (F m) t = some (X i)) ∧
      ∀ t, (∀ i (o : AOper), i < m → aops[i]? = some o → o.dst ≠ some t) → lk (F m) t = lk f t := by
    intro m
    induction m with
    | zero => intro _; exact ⟨fun i o t hi => absurd hi (Nat.not_lt_zero _), fun t _ => by rw [t2]⟩
    | succ m ih =>
      intro hm
      obtain ⟨i1, i2⟩ := ih (by omega)
      have ho : aops[m]? = some aops[m] := List.getElem?_eq_getElem (by omega)
      have e := (t6 m _ ho).2
      constructor
      · intro i o t hi hio hdt
        rw [e]
        by_cases him : i = m
        · subst him
          rw [ho] at hio; injection hio with hio
          rw [hio, hdt]; simp [put, lk]
        · cases hdm : aops[m].dst with
          | none => simp only [put]; exact i1 i o t (by omega) hio hdt
          | some u =>
            simp only [put, lk]
            rw [if_neg (fun e' => him (D.dist i m o _ t hio ho hdt (by rw [hdm, e'])))]
            exact i1 i o t (by omega) hio hdt
      · intro t ht
        rw [e]
        cases hdm : aops[m].dst with
        | none => simp only [put]; exact i2 t (fun i o hi => ht i o (by omega))
        | some u =>
          simp only [put, lk]
          rw [if_neg (fun e' => ht m _ (by omega) ho (by rw [hdm, e']))]
          exact i2 t (fun i o hi => ht i o (by omega))
  -- the heap between effects
  have heapS : ∀ i (o : AOper), aops[i]? = some o → o.op.eff = false → H (i + 1) = H i := by
    intro i o ho he
    rcases (t6 i o ho).1 with ⟨_, k⟩ | ⟨_, k⟩
    · cases hs : o.op with
      | call c l => rw [hs] at he; cases he
      | pl b =>
        rw [hs] at k he
        obtain ⟨x, h2, k1, _, k3⟩ := k
        rw [← k3]; exact evP_noeff he k1
    · exact k.2.symm
  have heapR : ∀ j i, i ≤ j → j ≤ aops.length → (∀ k (o : AOper), i ≤ k → k < j → aops[k]? = some o → o.op.eff = false) → H j = H i := by
    intro j
    induction j with
    | zero => intro i hi _ _; rw [show i = 0 by omega]
    | succ j ih =>
      intro i hi hj hno
      by_cases e : i = j + 1
      · rw [e]
      · have ho : aops[j]? = some aops[j] := List.getElem?_eq_getElem (by omega)
        rw [heapS j _ ho (hno j _ (by omega) (by omega) ho)]
        exact ih i (by omega) (by omega) (fun k o h1 h2 => hno k o h1 (by omega))
  -- the step
  have main : ∀ (fuel : Nat) (U : List Nat) (listed : Array Bool) (a : Act) (w : World), listed.size = ops.size → U.length ≤ fuel → (∀ i, i < ops.size → listed.getD i false = false → i ∈ U) →
      (∀ (i : Nat) (o : Oper), ops[i]? = some o → listed.getD i false = true → ∀ e ∈ o.after, Region.binds .any e = true → listed.getD e.on false = true) →
      (∃ cur, cur ≤ ops.size ∧ (∀ i (o : AOper), i < cur → aops[i]? = some o → o.op.eff = true → listed.getD i false = true) ∧ (∀ o : AOper, aops[cur]? = some o → o.op.eff = true ∧ listed.getD cur false = false) ∧
        ∃ g φ S, Sim (H cur) φ w S ∧ Ext h0 φ0 w0 S0 (H cur) φ w S ∧ FRel (H cur) φ w S g a ∧ a.defers = [] ∧ a.tmps.size = N ∧
          (∀ i (o : AOper) t, listed.getD i false = true → aops[i]? = some o → o.dst = some t → lk g t = some (X i)) ∧
          ∀ t, (∀ i (o : AOper), listed.getD i false = true → aops[i]? = some o → o.dst ≠ some t) → lk g t = lk f t) →
      wpAny P .any ops Q' fuel listed a w := by
    intro fuel
    have done : ∀ (listed : Array Bool) (a : Act) (w : World), listed.size = ops.size → (∀ i, i < ops.size → listed.getD i false = true) →
      (∃ cur, cur ≤ ops.size ∧ (∀ i (o : AOper), i < cur → aops[i]? = some o → o.op.eff = true → listed.getD i false = true) ∧ (∀ o : AOper, aops[cur]? = some o → o.op.eff = true ∧ listed.getD cur false = false) ∧
        ∃ g φ S, Sim (H cur) φ w S ∧ Ext h0 φ0 w0 S0 (H cur) φ w S ∧ FRel (H cur) φ w S g a ∧ a.defers = [] ∧ a.tmps.size = N ∧
          (∀ i (o : AOper) t, listed.getD i false = true → aops[i]? = some o → o.dst = some t → lk g t = some (X i)) ∧
          ∀ t, (∀ i (o : AOper), listed.getD i false = true → aops[i]? = some o → o.dst ≠ some t) → lk g t = lk f t) → Q' .normal a w := by
      intro listed a w hs hall ⟨cur, c1, c2, c3, g, φ, S, M, E, FR, hd, hN, g1, g2⟩
      have hc : cur = aops.length := by
        rcases Nat.lt_or_ge cur aops.length with hlt | hge
        · have := (c3 _ (List.getElem?_eq_getElem hlt)).2
          rw [hall cur (by omega)] at this
          cases this
        · omega
      subst hc
      refine hQn a w ⟨f', h', φ, S, hK, by rw [← t5]; exact M, by rw [← t5]; exact E, ?_, hd, hN⟩
      rw [← t5, ← t4]
      obtain ⟨s1, s2⟩ := seqF aops.length (Nat.le_refl _)
      intro t x hx
      refine FR t x ?_
      rw [← hx]
      rcases Classical.em (∃ (i : Nat) (o : AOper), aops[i]? = some o ∧ o.dst = some t) with ⟨i, o, hio, hdt⟩ | hno
      · have hi := (List.getElem?_eq_some_iff.1 hio).1
        rw [g1 i o t (hall i (by omega)) hio hdt, s1 i o t hi hio hdt]
      · rw [g2 t (fun i o _ hio e => hno ⟨i, o, hio, e⟩), s2 t (fun i o _ hio e => hno ⟨i, o, hio, e⟩)]
    have getD_eq : ∀ (listed : Array Bool) (i : Nat), listed.size = ops.size → i < ops.size → listed.getD i true = listed.getD i false := by
      intro listed i hs hi
      simp [Array.getD_eq_getD_getElem?, Array.getElem?_eq_getElem (show i < listed.size by omega)]
    have readyNil : ∀ (listed : Array Bool), listed.size = ops.size → Region.ready .any ops listed = [] → ∀ i, i < ops.size → listed.getD i false = true := by
      intro listed hs hr i
      induction i using Nat.strongRecOn with
      | _ i ih =>
        intro hi
        cases hl : listed.getD i false with
        | true => rfl
        | false =>
          have : i ∈ Region.ready .any ops listed := by
            refine mem_ready.2 ⟨by rw [getD_eq listed i hs hi]; exact hl, ops[i], Array.getElem?_eq_getElem hi, fun e he hb => ?_⟩
            have := D.back i _ (Array.getElem?_eq_getElem hi) e he hb
            exact ih e.on this (by omega)
          rw [hr] at this
          cases this
    induction fuel with
    | zero =>
      intro U listed a w hs hU hUall hcl hI
      have hall : ∀ i, i < ops.size → listed.getD i false = true := by
        intro i hi
        cases hl : listed.getD i false with
        | true => rfl
        | false => have := hUall i hi hl; rw [List.eq_nil_of_length_eq_zero (Nat.le_zero.1 hU)] at this; cases this
      refine ⟨?_, done listed a w hs hall hI⟩
      refine List.eq_nil_iff_forall_not_mem.2 fun i hi => ?_
      obtain ⟨h1, o, h2, _⟩ := mem_ready.1 hi
      have hlt := (Array.getElem?_eq_some_iff.1 h2).1
      rw [getD_eq listed i hs hlt, hall i hlt] at h1
      cases h1
    | succ fuel ih =>
      intro U listed a w hs hU hUall hcl hI
      refine ⟨fun hr => done listed a w hs (readyNil listed hs hr) hI, fun p hp => ?_⟩
      obtain ⟨hpl, o, hpo, hafter⟩ := mem_ready.1 hp
      have hplt : p < ops.size := (Array.getElem?_eq_some_iff.1 hpo).1
      rw [getD_eq listed p hs hplt] at hpl
      obtain ⟨cur, c1, c2, c3, g, φ, S, M, E, FR, hd, hN, g1, g2⟩ := hI
      obtain ⟨ap, hpa⟩ : ∃ ap, aops[p]? = some ap := ⟨_, List.getElem?_eq_getElem (by omega : p < aops.length)⟩
      have C := D.opc p _ o hpa hpo
      have preP : ∀ j, pre p j → listed.getD j false = true := D.pre_ready (fun i => listed.getD i false) hcl p o hpo hafter
      have preL : ∀ i j, pre i j → listed.getD i false = true → listed.getD j false = true := D.pre_ok (fun i => listed.getD i false) hcl
      obtain ⟨s1, s2⟩ := seqF p (by omega)
      -- what the operation looks at is what it looked at in the order of the text
      have same : ∀ t ∈ ap.uses, lk (F p) t = lk g t := by
        intro t ht
        rcases Classical.em (∃ (i : Nat) (o : AOper), aops[i]? = some o ∧ o.dst = some t) with ⟨i, oi, hio, hdt⟩ | hno
        · have uniq : ∀ k (ok : AOper), aops[k]? = some ok → ok.dst = some t → k = i := fun k ok hk hkd => D.dist k i ok oi t hk hio hkd hdt
          rcases D.reads p i _ oi t hpa hio ht hdt with e | ⟨e1, e2⟩ | ⟨e1, e2⟩
          · rw [s2 t (fun k ok hk hko hkd => by have := uniq k ok hko hkd; omega), g2 t (fun k ok hk hko hkd => by
              have := uniq k ok hko hkd
              subst this; subst e; rw [hpl] at hk; cases hk)]
          · rw [s1 i oi t e1 hio hdt, g1 i oi t (preP i e2) hio hdt]
          · rw [s2 t (fun k ok hk hko hkd => by have := uniq k ok hko hkd; omega), g2 t (fun k ok hk hko hkd => by
              have := uniq k ok hko hkd
              subst this
              have := preL _ _ e2 hk
              rw [hpl] at this; cases this)]
        · rw [s2 t (fun i o _ hio e => hno ⟨i, o, hio, e⟩), g2 t (fun i o _ hio e => hno ⟨i, o, hio, e⟩)]
      -- the listed set behind it
      have hsz : (listed.setIfInBounds p true).size = ops.size := by simp [hs]
      have hU' : (U.erase p).length ≤ fuel := by
        have hm := hUall p hplt hpl
        rw [List.length_erase_of_mem hm]
        omega
      have getp : (listed.setIfInBounds p true).getD p false = true := by
        simp [Array.getD_eq_getD_getElem?, show p < listed.size by omega]
      have geto : ∀ i, i ≠ p → (listed.setIfInBounds p true).getD i false = listed.getD i false := fun i hi => getD_set_ne false (Ne.symm hi)
      have hUall' : ∀ i, i < ops.size → (listed.setIfInBounds p true).getD i false = false → i ∈ U.erase p := by
        intro i hi hl
        by_cases hip : i = p
        · subst hip; rw [getp] at hl; cases hl
        · rw [geto i hip] at hl
          exact (List.mem_erase_of_ne hip).2 (hUall i hi hl)
      have hcl' : ∀ (i : Nat) (o : Oper), ops[i]? = some o → (listed.setIfInBounds p true).getD i false = true → ∀ e ∈ o.after, Region.binds .any e = true → (listed.setIfInBounds p true).getD e.on false = true := by
        intro i oi hio hl e he hb
        refine getD_set_true ?_
        by_cases hip : i = p
        · subst hip
          rw [hpo] at hio; injection hio with hio; subst hio
          exact hafter e he hb
        · rw [geto i hip] at hl
          exact hcl i oi hio hl e he hb
      have nextG : ∀ (v : Value) (x : AV) (cur' : Nat) (φ' : Nat → Loc) (w' : World) (S' : Nat → Nat → Prop), x = X p → Ext (H cur) φ w S (H cur') φ' w' S' → Rel (H cur') φ' w' S' true x v →
          FRel (H cur') φ' w' S' (put g ap.dst x) (a.put o.dst v) ∧ (a.put o.dst v).defers = [] ∧ (a.put o.dst v).tmps.size = N ∧
          (∀ i (oi : AOper) t, (listed.setIfInBounds p true).getD i false = true → aops[i]? = some oi → oi.dst = some t → lk (put g ap.dst x) t = some (X i)) ∧
          ∀ t, (∀ i (oi : AOper), (listed.setIfInBounds p true).getD i false = true → aops[i]? = some oi → oi.dst ≠ some t) → lk (put g ap.dst x) t = lk f t := by
        intro v x cur' φ' w' S' hx E' R'
        subst hx
        refine ⟨?_, by rw [put_defers']; exact hd, by rw [put_size]; exact hN, ?_, ?_⟩
        · rw [C.dst]
          exact (FR.mono E').put _ _ _ R' (fun d hd' => by rw [hN]; exact C.lt d hd')
        · intro i oi t hl hio hdt
          by_cases hip : i = p
          · subst hip
            rw [hpa] at hio; injection hio with hio; subst hio
            rw [hdt]; simp [put, lk]
          · rw [geto i hip] at hl
            cases hdp : ap.dst with
            | none => simp only [put]; exact g1 i oi t hl hio hdt
            | some u =>
              simp only [put, lk]
              rw [if_neg (fun e' => hip (D.dist i p oi _ t hio hpa hdt (by rw [hdp, e'])))]
              exact g1 i oi t hl hio hdt
        · intro t ht
          have hne := ht p _ getp hpa
          have : lk (put g ap.dst (X p)) t = lk g t := by
            cases hdp : ap.dst with
            | none => rfl
            | some u => simp only [put, lk]; rw [if_neg (fun e' => hne (by rw [hdp, e']))]
          rw [this]
          exact g2 t (fun i oi hl hio => ht i oi (getD_set_true hl) hio)
      have hop := (t6 p _ hpa).1
      cases hef : ap.op.eff with
      | true =>
        have hcp : cur = p := by
          rcases Nat.lt_trichotomy cur p with hlt | heq | hgt
          · have hco : aops[cur]? = some aops[cur] := List.getElem?_eq_getElem (by omega)
            obtain ⟨q1, q2⟩ := c3 _ hco
            have := preP cur (D.effs cur p _ _ hlt hco hpa q1 hef)
            rw [q2] at this; cases this
          · exact heq
          · have := c2 p _ hgt hpa hef
            rw [hpl] at this; cases this
        subst hcp
        -- the next effect
        have later : ∃ cur', cur < cur' ∧ cur' ≤ ops.size ∧ (∀ k (ok : AOper), cur < k → k < cur' → aops[k]? = some ok → ok.op.eff = false) ∧ ∀ ok : AOper, aops[cur']? = some ok → ok.op.eff = true := by
          have : ∀ n m, cur < m → m + n = ops.size → (∀ k (ok : AOper), cur < k → k < m → aops[k]? = some ok → ok.op.eff = false) →
              ∃ cur', cur < cur' ∧ cur' ≤ ops.size ∧ (∀ k (ok : AOper), cur < k → k < cur' → aops[k]? = some ok → ok.op.eff = false) ∧ ∀ ok : AOper, aops[cur']? = some ok → ok.op.eff = true := by
            intro n
            induction n with
            | zero => intro m hm hmn hno; exact ⟨m, hm, by omega, hno, fun ok hk => by have := (List.getElem?_eq_some_iff.1 hk).1; omega⟩
            | succ n ihn =>
              intro m hm hmn hno
              have hmo : aops[m]? = some aops[m] := List.getElem?_eq_getElem (by omega)
              cases hme : aops[m].op.eff with
              | true => exact ⟨m, hm, by omega, hno, fun ok hk => by rw [hmo] at hk; injection hk with hk; rw [← hk]; exact hme⟩
              | false =>
                refine ihn (m + 1) (by omega) (by omega) (fun k ok h1 h2 h3 => ?_)
                by_cases hkm : k = m
                · subst hkm; rw [hmo] at h3; injection h3 with h3; rw [← h3]; exact hme
                · exact hno k ok h1 (by omega) h3
          exact this (ops.size - (cur + 1)) (cur + 1) (by omega) (by omega) (fun k ok h1 h2 => by omega)
        obtain ⟨cur', l1, l2, l3, l4⟩ := later
        have hH : H cur' = H (cur + 1) := heapR cur' (cur + 1) (by omega) (by omega) (fun k ok h1 h2 h3 => l3 k ok (by omega) h2 h3)
        refine op1_sound (Q := Q') C hpo (P.stable E V0) M FR hN (op1_congr same hop) ?_ ?_
        · intro x h1 φ' w' S' v hx M' E' R'
          obtain ⟨hx1, hx2⟩ := hx
          injection hx1 with hx1
          rw [hx2, ← hH] at M' E' R'
          refine ih (U.erase cur) _ _ w' hsz hU' hUall' hcl' ⟨cur', l2, ?_, ?_, _, φ', S', M', E.trans E', nextG v x cur' φ' w' S' hx1 E' R'⟩
          · intro k ok hk hko hke
            rcases Nat.lt_trichotomy k cur with h | h | h
            · exact getD_set_true (c2 k ok h hko hke)
            · rw [h]; exact getp
            · have := l3 k ok h hk hko; rw [hke] at this; cases this
          · intro ok hk
            refine ⟨l4 ok hk, ?_⟩
            rw [geto cur' (by omega)]
            cases hl : listed.getD cur' false with
            | false => rfl
            | true =>
              have := preL cur' cur (D.effs cur cur' _ _ l1 hpa hk hef (l4 ok hk)) hl
              rw [hpl] at this; cases this
        · intro x h1 φ' w' S' v hx
          cases hx.1
      | false =>
        have hpc : cur ≠ p := by
          intro e
          have := (c3 ap (by rw [e]; exact hpa)).1
          rw [hef] at this; cases this
        -- the value at this heap
        have hval : op1 P (F p) (H cur) ap (fun r h2 => r = .ok (X p) ∧ h2 = H cur) := by
          rcases hop with ⟨k1, k2⟩ | ⟨k1, k2⟩
          case inr => exact .inr ⟨k1, k2.1, rfl⟩
          refine .inl ⟨k1, ?_⟩
          cases hsp : ap.op with
          | call c l => rw [hsp] at hef; cases hef
          | pl b =>
            rw [hsp] at k2
            obtain ⟨x, h2, k3, k4, k5⟩ := k2
            injection k4 with k4
            subst k4
            have hbe : b.eff = false := by rw [hsp] at hef; exact hef
            cases hrd : b.rd with
            | false => exact ⟨X p, H cur, evP_pure hbe hrd k3 (H cur), rfl, rfl⟩
            | true =>
              have hv0 : valOf (F p) (H p) ap = some (X p) := by simp only [valOf, k1, hsp, k3, Option.map_some]
              have key : valOf (F p) (H cur) ap = some (X p) := by
                have pairs := fun k (y : AOper) (hk : aops[k]? = some y) (hy : y.op.eff = true) => D.pairs p k _ y hpa hk hef (by rw [hsp]; exact hrd) hy
                rcases Nat.lt_or_ge cur p with hlt | hge
                · have hco : aops[cur]? = some aops[cur] := List.getElem?_eq_getElem (by omega)
                  obtain ⟨q1, q2⟩ := c3 _ hco
                  rcases pairs cur _ hco q1 with hre | ⟨_, hpr⟩ | ⟨hlt', _⟩
                  · rw [(DO (p, cur) hre _ _ _ _ hpa (t1 p (by omega)) (t1 cur (by omega)) (t1 (cur + 1) (by omega))).1]; exact hv0
                  · have := preP cur hpr; rw [q2] at this; cases this
                  · omega
                · -- the last effect in between
                  have lastE : (∀ k (y : AOper), p ≤ k → k < cur → aops[k]? = some y → y.op.eff = false) ∨ ∃ (k : Nat) (y : AOper), p < k ∧ k < cur ∧ aops[k]? = some y ∧ y.op.eff = true ∧ ∀ j (z : AOper), k + 1 ≤ j → j < cur → aops[j]? = some z → z.op.eff = false := by
                    have : ∀ n, n ≤ cur → (∀ j (z : AOper), n ≤ j → j < cur → aops[j]? = some z → z.op.eff = false) → p ≤ n →
                        ((∀ k (y : AOper), p ≤ k → k < cur → aops[k]? = some y → y.op.eff = false) ∨ ∃ (k : Nat) (y : AOper), p < k ∧ k < cur ∧ aops[k]? = some y ∧ y.op.eff = true ∧ ∀ j (z : AOper), k + 1 ≤ j → j < cur → aops[j]? = some z → z.op.eff = false) := by
                      intro n
                      induction n with
                      | zero => intro _ hno hpn; exact .inl (fun k y h1 h2 h3 => hno k y (by omega) h2 h3)
                      | succ n ihn =>
                        intro hn' hno hpn
                        by_cases e : p = n + 1
                        · exact .inl (fun k y h1 h2 h3 => hno k y (by omega) h2 h3)
                        · have hno' : aops[n]? = some aops[n] := List.getElem?_eq_getElem (by omega)
                          cases hne : aops[n].op.eff with
                          | true =>
                            have : p ≠ n := fun e' => by
                              subst e'
                              rw [hpa] at hno'; injection hno' with hno'
                              rw [← hno', hef] at hne; cases hne
                            exact .inr ⟨n, _, by omega, by omega, hno', hne, hno⟩
                          | false =>
                            refine ihn (by omega) (fun j z h1 h2 h3 => ?_) (by omega)
                            by_cases hjn : j = n
                            · subst hjn; rw [hno'] at h3; injection h3 with h3; rw [← h3]; exact hne
                            · exact hno j z (by omega) h2 h3
                    exact this cur (Nat.le_refl _) (fun j z h1 h2 => by omega) hge
                  rcases lastE with hno | ⟨k, y, k1', k2', k3', k4', k5'⟩
                  · rw [heapR cur p hge (by omega) hno]; exact hv0
                  · have hkl := c2 k y k2' k3' k4'
                    rcases pairs k y k3' k4' with hre | ⟨hlt', _⟩ | ⟨_, hpr⟩
                    · have hH : H cur = H (k + 1) := heapR cur (k + 1) (by omega) (by omega) k5'
                      rw [hH, (DO (p, k) hre _ _ _ _ hpa (t1 p (by omega)) (t1 k (by omega)) (t1 (k + 1) (by omega))).2]; exact hv0
                    · omega
                    · have := preL k p hpr hkl; rw [hpl] at this; cases this
              simp only [valOf, k1, hsp] at key
              obtain ⟨r, r1, r2⟩ := Option.map_eq_some_iff.1 key
              obtain ⟨r3, r4⟩ := r
              have := evP_noeff hbe r1
              simp only at r2 this
              subst r2 this
              exact ⟨_, _, r1, rfl, rfl⟩
        refine op1_sound (Q := Q') C hpo (P.stable E V0) M FR hN (op1_congr same hval) ?_ ?_
        · intro x h1 φ' w' S' v hx M' E' R'
          obtain ⟨hx1, hx2⟩ := hx
          injection hx1 with hx1
          rw [hx2] at M' E' R'
          refine ih (U.erase p) _ _ w' hsz hU' hUall' hcl' ⟨cur, c1, ?_, ?_, _, φ', S', M', E.trans E', nextG v x cur φ' w' S' hx1 E' R'⟩
          · intro k ok hk hko hke
            exact getD_set_true (c2 k ok hk hko hke)
          · intro ok hk
            obtain ⟨q1, q2⟩ := c3 ok hk
            exact ⟨q1, by rw [geto cur hpc]; exact q2⟩
        · intro x h1 φ' w' S' v hx
          cases hx.1
  -- the start
  have firstE : ∃ cur, cur ≤ ops.size ∧ (∀ k (ok : AOper), k < cur → aops[k]? = some ok → ok.op.eff = false) ∧ ∀ ok : AOper, aops[cur]? = some ok → ok.op.eff = true := by
    have : ∀ n m, m + n = ops.size → (∀ k (ok : AOper), k < m → aops[k]? = some ok → ok.op.eff = false) →
        ∃ cur', cur' ≤ ops.size ∧ (∀ k (ok : AOper), k < cur' → aops[k]? = some ok → ok.op.eff = false) ∧ ∀ ok : AOper, aops[cur']? = some ok → ok.op.eff = true := by
      intro n
      induction n with
      | zero => intro m hmn hno; exact ⟨m, by omega, hno, fun ok hk => by have := (List.getElem?_eq_some_iff.1 hk).1; omega⟩
      | succ n ihn =>
        intro m hmn hno
        have hmo : aops[m]? = some aops[m] := List.getElem?_eq_getElem (by omega)
        cases hme : aops[m].op.eff with
        | true => exact ⟨m, by omega, hno, fun ok hk => by rw [hmo] at hk; injection hk with hk; rw [← hk]; exact hme⟩
        | false =>
          refine ihn (m + 1) (by omega) (fun k ok h2 h3 => ?_)
          by_cases hkm : k = m
          · subst hkm; rw [hmo] at h3; injection h3 with h3; rw [← h3]; exact hme
          · exact hno k ok (by omega) h3
    exact this ops.size 0 (by omega) (fun k ok h => absurd h (Nat.not_lt_zero _))
  obtain ⟨cur, l1, l2, l3⟩ := firstE
  have hH : H cur = h := by rw [heapR cur 0 (by omega) (by omega) (fun k ok _ h2 h3 => l2 k ok h2 h3), t3]
  have rep : ∀ i, (Array.replicate ops.size false).getD i false = false := by
    intro i
    simp only [Array.getD_eq_getD_getElem?, Array.getElem?_replicate]
    split <;> rfl
  refine main ops.size (List.range ops.size) _ a w (by simp) (by simp) (fun i hi _ => List.mem_range.2 hi) (fun i o _ hl => by rw [rep] at hl; cases hl)
    ⟨cur, l1, fun (i : Nat) (o : AOper) (hi : i < cur) (hio : aops[i]? = some o) (he : o.op.eff = true) => absurd ((l2 i o hi hio).symm.trans he) (by simp), fun o ho => ⟨l3 o ho, rep _⟩, f, φ, S, by rw [hH]; exact M, by rw [hH]; exact E, by rw [hH]; exact F0, hd, hN,
      fun i o t hl => (by rw [rep] at hl; cases hl), fun t _ => rfl⟩
end
end Go.Eng
