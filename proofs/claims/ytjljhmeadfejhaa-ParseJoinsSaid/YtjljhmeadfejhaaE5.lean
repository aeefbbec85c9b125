/- The engine, part 5: plain operations do in the model what they do to abstract values. -/
import Derived.Test.YtjljhmeadfejhaaE4
set_option linter.unusedVariables false
set_option linter.unusedSimpArgs false
namespace Go.Eng

def RunsTo (P : Program) (o : Oper) (a : Act) (w : World) (v : Value) (w' : World) : Prop :=
  (execOp a.eval o).run P w = .ok (.value v) w' ∨ ((execOp a.eval o).run P w = .ok .skip w' ∧ v = undef)
def Fine (P : Program) (o : Oper) (a : Act) (h : List AO) (φ : Nat → Loc) (w : World) (S : Nat → Nat → Prop) (x : AV) (h' : List AO) : Prop :=
  ∃ v w' φ' S', RunsTo P o a w v w' ∧ Sim h' φ' w' S' ∧ Ext h φ w S h' φ' w' S' ∧ Rel h' φ' w' S' true x v

section
variable {P : Program} {o : Oper} {a : Act} {h : List AO} {φ : Nat → Loc} {w : World} {S : Nat → Nat → Prop} {f : Fr} {x : AV} {h' : List AO}

theorem fine_pure (M : Sim h φ w S) {v : Value} (hr : (execOp a.eval o).run P w = .ok (.value v) w) (r : Rel h φ w S true x v) : Fine P o a h φ w S x h :=
  ⟨v, w, φ, S, .inl hr, M, Ext.refl _ _ _ _, r⟩

theorem fine_move (M : Sim h φ w S) (F : FRel h φ w S f a) {y : Operand} {p : Opnd} (ho : o.op = .move y ∨ o.op = .assign y) (e : cO y = some p) : Fine P o a h φ w S (ev f p) h := by
  refine fine_pure M (v := a.eval y) ?_ (rel_ev F e)
  rcases ho with ho | ho <;> simp [execOp, ho]

theorem fine_pick (M : Sim h φ w S) (F : FRel h φ w S f a) {c y z : Operand} {pc py pz : Opnd} (ho : o.op = .pick c y z) (e1 : cO c = some pc) (e2 : cO y = some py) (e3 : cO z = some pz)
    (he : evP f h (.pick pc py pz) = some (x, h')) : Fine P o a h φ w S x h' := by
  have r1 := rel_ev F e1
  simp only [evP] at he
  split at he
  · rename_i hb
    rw [hb] at r1
    injection he with he; injection he with h1 h2; subst h1 h2
    generalize hv : a.eval c = vc at r1
    cases r1
    exact fine_pure M (v := a.eval y) (by simp [execOp, ho, hv, asBool]) (rel_ev F e2)
  · rename_i hb
    rw [hb] at r1
    injection he with he; injection he with h1 h2; subst h1 h2
    generalize hv : a.eval c = vc at r1
    cases r1
    exact fine_pure M (v := a.eval z) (by simp [execOp, ho, hv, asBool]) (rel_ev F e3)
  · cases he

/-- A new box. -/
theorem sim_box (M : Sim h φ w S) (cs : List AV) (arr : Array Value) (T : TypeId) (hl : cs.length = arr.size) (h1 : ∀ (j : Nat) (y : AV), cs[j]? = some y → y.one = true)
    (hr : ∀ (j : Nat) (y : AV) (u : Value), cs[j]? = some y → arr[j]? = some u → Rel h φ w S true y u) :
    Sim (h ++ [.box cs]) (updφ φ h.length ⟨w.heap.size, 0⟩) (w.alloc (.cells arr T)) S ∧ Ext h φ w S (h ++ [.box cs]) (updφ φ h.length ⟨w.heap.size, 0⟩) (w.alloc (.cells arr T)) S := by
  have st := push_step M (.box cs) (.cells arr T) 0 S (fun _ _ k => k) (fun _ _ k => .inl k)
  have E := st.ext M (by simp)
  refine ⟨st.sim M (by simp) ⟨arr, T, ?_, Nat.le_of_eq hl, h1, fun j y u hy hu => (hr j y u hy hu).mono E, fun j hj => ?_⟩, E⟩
  · simp only [updφ_same]; show (w.heap.push _)[w.heap.size]? = _; simp
  · simp only [updφ_same] at hj
    exact absurd (M.stab _ _ hj) (Nat.lt_irrefl _)
theorem rel_newptr (h : List AO) (cs : List AV) (φ : Nat → Loc) (w' : World) (S : Nat → Nat → Prop) (b : Nat) : Rel (h ++ [.box cs]) (updφ φ h.length ⟨b, 0⟩) w' S true (.ptr h.length 0) (.pointer (some ⟨b, 0, none⟩)) := by
  have := Rel.ptr (h := h ++ [.box cs]) (φ := updφ φ h.length ⟨b, 0⟩) (w := w') (S := S) h.length 0 ⟨.box cs, by simp, rfl⟩
  simpa using this

theorem fine_alloc (M : Sim h φ w S) {e : TypeId} {zs : List AV} (ho : o.op = .alloc e) (hz : zeroL P e = some zs) : Fine P o a h φ w S (.ptr h.length 0) (h ++ [.box zs]) := by
  unfold zeroL at hz
  split at hz
  case h_2 => cases hz
  rename_i i hi
  split at hz
  case h_2 => cases hz
  rename_i z hzz
  obtain ⟨k1, k2, k3⟩ := rel_cvL (h := h) (φ := φ) (w := w) (S := S) hz true
  obtain ⟨s1, s2⟩ := sim_box M zs z.cells e (by simpa using k1) k2 (fun j y u hy hu => k3 j y u hy (by simpa using hu))
  refine ⟨_, _, _, _, .inl ?_, s1, s2, rel_newptr _ _ _ _ _ _⟩
  simp [execOp, ho, Instr.alloc, zeroValue, typeInfo, hi, hzz, newVar, newRow]

theorem fine_box (M : Sim h φ w S) (F : FRel h φ w S f a) {e : TypeId} {y : Operand} {p : Opnd} (ho : o.op = .box e y) (e1 : cO y = some p) (h1 : (ev f p).cells.all AV.one = true) :
    Fine P o a h φ w S (.ptr h.length 0) (h ++ [.box (ev f p).cells]) := by
  obtain ⟨k1, k2, _, k3⟩ := cells_rel (rel_ev F e1) h1
  obtain ⟨s1, s2⟩ := sim_box M (ev f p).cells (a.eval y).cells e k1 k2 k3
  refine ⟨_, _, _, _, .inl ?_, s1, s2, rel_newptr _ _ _ _ _ _⟩
  simp [execOp, ho, Instr.box, newVar, newRow]

/-! ### build -/
theorem foldl_set (cs : Array Value) (off : Nat) : ∀ (us : List Value) (j : Nat), off + j + us.length ≤ cs.size →
    ((us.zipIdx j).foldl (fun c (p : Value × Nat) => c.setIfInBounds (off + p.2) p.1) cs).toList = cs.toList.take (off + j) ++ us ++ cs.toList.drop (off + j + us.length) := by
  intro us
  induction us generalizing cs with
  | nil => intro j hj; simp
  | cons u us ih =>
    intro j hj
    simp only [List.length_cons] at hj
    simp only [List.zipIdx_cons, List.foldl_cons]
    rw [ih _ (j + 1) (by simp; omega)]
    simp only [Array.toList_setIfInBounds, List.length_cons]
    apply List.ext_getElem?
    intro n
    simp only [List.getElem?_append, List.getElem?_take, List.getElem?_drop, List.getElem?_set, List.length_take, List.length_set, List.length_append, List.getElem?_cons, List.length_cons, Array.length_toList]
    have e1 : min (off + (j + 1)) cs.size = off + (j + 1) := by omega
    have e2 : min (off + j) cs.size = off + j := by omega
    rw [e1, e2]
    by_cases h1 : n < off + j
    · simp [show n < off + (j + 1) + us.length by omega, show n < off + (j + 1) by omega, show n < off + j + (us.length + 1) by omega, h1, show ¬ off + j = n by omega]
    · by_cases h2 : n = off + j
      · subst h2
        simp [show off + j < off + (j + 1) + us.length by omega, show off + j < off + (j + 1) by omega, show off + j < off + j + (us.length + 1) by omega, show off + j < cs.size by omega]
      · by_cases h3 : n < off + j + (us.length + 1)
        · simp only [show n < off + (j + 1) + us.length by omega, show ¬ n < off + (j + 1) by omega, h3, h1, show ¬ n - (off + j) = 0 by omega, if_true, if_false]
          congr 1
        · simp only [show ¬ n < off + (j + 1) + us.length by omega, h3, if_false]
          simp only [show ¬ off + j = off + (j + 1) + us.length + (n - (off + (j + 1) + us.length)) by omega, if_false]
          congr 1
          omega

theorem getElem?_setL {cs ys : List AV} {o : Nat} (hl : o + ys.length ≤ cs.length) (j : Nat) : (setL cs o ys)[j]? = if o ≤ j ∧ j < o + ys.length then ys[j - o]? else cs[j]? := by
  unfold setL
  simp only [List.getElem?_append, List.length_append, List.length_take, List.getElem?_take, List.getElem?_drop]
  have e : min o cs.length = o := by omega
  rw [e]
  by_cases h1 : j < o
  · simp [h1, show j < o + ys.length by omega, show ¬ o ≤ j by omega]
  · by_cases h2 : j < o + ys.length
    · simp [h1, h2, show o ≤ j by omega]
    · simp only [h1, h2, if_false, and_false]
      congr 1
      omega
theorem length_setL {cs ys : List AV} {o : Nat} (hl : o + ys.length ≤ cs.length) : (setL cs o ys).length = cs.length := by
  unfold setL; simp; omega

/-- Places one after the other: what Lean lists and the model's rows say of it. -/
theorem setL_rel {m : Bool} {cs ys : List AV} {o : Nat} {arr us : List Value} (hl : o + ys.length ≤ cs.length) (ha : cs.length ≤ arr.length) (hu : ys.length = us.length)
    (hr : ∀ (j : Nat) (y : AV) (u : Value), cs[j]? = some y → arr[j]? = some u → Rel h φ w S m y u) (hr' : ∀ (j : Nat) (y : AV) (u : Value), ys[j]? = some y → us[j]? = some u → Rel h φ w S m y u) :
    ∀ (j : Nat) (y : AV) (u : Value), (setL cs o ys)[j]? = some y → (arr.take o ++ us ++ arr.drop (o + us.length))[j]? = some u → Rel h φ w S m y u := by
  intro j y u hy hu'
  rw [getElem?_setL hl] at hy
  simp only [List.getElem?_append, List.length_append, List.length_take, List.getElem?_take, List.getElem?_drop] at hu'
  have e : min o arr.length = o := by omega
  rw [e] at hu'
  by_cases h1 : j < o
  · simp [h1, show j < o + us.length by omega] at hu'
    rw [if_neg (by omega)] at hy
    exact hr j y u hy hu'
  · by_cases h2 : j < o + us.length
    · simp [h1, h2] at hu'
      rw [if_pos (by omega)] at hy
      exact hr' _ y u hy hu'
    · simp only [h1, h2, if_false] at hu'
      rw [if_neg (by omega)] at hy
      rw [show o + us.length + (j - (o + us.length)) = j by omega] at hu'
      exact hr j y u hy hu'
theorem setL_one {cs ys : List AV} {o : Nat} (hl : o + ys.length ≤ cs.length) (h1 : ∀ (j : Nat) (y : AV), cs[j]? = some y → y.one = true) (h2 : ∀ (j : Nat) (y : AV), ys[j]? = some y → y.one = true) :
    ∀ (j : Nat) (y : AV), (setL cs o ys)[j]? = some y → y.one = true := by
  intro j y hy
  rw [getElem?_setL hl] at hy
  split at hy
  · exact h2 _ _ hy
  · exact h1 _ _ hy

theorem fill_rel (M : Sim h φ w S) (F : FRel h φ w S f a) (fs : Array Field) : ∀ (ps : List (Nat × Operand)) (l : List (Nat × Nat × Opnd)) (cs out : List AV) (arr : Array Value),
    cParts P fs ps = some l → fillA cs (l.map fun p => (p.1, p.2.1, ev f p.2.2)) = some out → cs.length = arr.size → (∀ (j : Nat) (y : AV), cs[j]? = some y → y.one = true) →
    (∀ (j : Nat) (y : AV) (u : Value), cs[j]? = some y → arr[j]? = some u → Rel h φ w S true y u) →
    ∀ places : Nat → Option (Nat × Nat), (∀ i fl, fs[i]? = some fl → ∃ n, szOf P fl.type = some n ∧ places i = some (fl.offset, n)) →
    ∃ out' : Array Value, Instr.fill places arr (ps.map fun p => (p.1, a.eval p.2)) = some out' ∧ out.length = out'.size ∧ (∀ (j : Nat) (y : AV), out[j]? = some y → y.one = true) ∧
      ∀ (j : Nat) (y : AV) (u : Value), out[j]? = some y → out'[j]? = some u → Rel h φ w S true y u
  | [], l, cs, out, arr, hp, hf, hl, h1, hr, places, _ => by
    injection hp with hp
    subst hp
    simp only [List.map_nil, fillA] at hf
    injection hf with hf
    subst hf
    exact ⟨arr, rfl, hl, h1, hr⟩
  | (i, y) :: ps, l, cs, out, arr, hp, hf, hl, h1, hr, places, hpl => by
    simp only [cParts] at hp
    split at hp
    case h_2 => cases hp
    rename_i fl z l' hfl hy hps
    split at hp
    case h_2 => cases hp
    rename_i n hn
    injection hp with hp
    subst hp
    simp only [List.map_cons, fillA] at hf
    split at hf
    case isFalse => cases hf
    rename_i hc
    obtain ⟨hc1, hc2, hc3⟩ := hc
    obtain ⟨n', hn', hpi⟩ := hpl i fl hfl
    rw [hn] at hn'
    injection hn' with hn'
    subst hn'
    obtain ⟨k1, k2, _, k3⟩ := cells_rel (rel_ev F hy) hc3
    have hlen : (a.eval y).cells.size = n := by omega
    simp only [List.map_cons, Instr.fill, hpi]
    rw [if_neg (by simp [hlen]; omega)]
    have hfold : ((a.eval y).cells.zipIdx.foldl (fun cs (p : Value × Nat) => cs.setIfInBounds (fl.offset + p.2) p.1) arr) = (arr.toList.take fl.offset ++ (a.eval y).cells.toList ++ arr.toList.drop (fl.offset + (a.eval y).cells.toList.length)).toArray := by
      apply Array.ext'
      rw [← Array.foldl_toList, Array.toList_zipIdx]
      have := foldl_set arr fl.offset (a.eval y).cells.toList 0 (by simp; omega)
      simpa using this
    rw [hfold]
    have hlt : fl.offset + (ev f z).cells.length ≤ cs.length := by omega
    refine fill_rel M F fs ps l' (setL cs fl.offset (ev f z).cells) out _ hps hf ?_ (setL_one hlt h1 k2) ?_ places hpl
    · rw [length_setL hlt]; simp; omega
    · have := setL_rel (m := true) (arr := arr.toList) (us := (a.eval y).cells.toList) hlt (Nat.le_of_eq (by simpa using hl)) (by simpa using k1) (fun j y u hy hu => hr j y u hy (by simpa using hu)) (fun j y u hy hu => k3 j y u hy (by simpa using hu))
      intro j y u hy hu
      exact this j y u hy (by simpa using hu)

theorem mapM_places (w : World) : ∀ (fs : List Field), (∀ f ∈ fs, (szOf P f.type).isSome = true) →
    (fs.mapM fun (f : Field) => (do pure (f.offset, ← sizeOf f.type) : Sem (Nat × Nat))).run P w = .ok (fs.map fun f => (f.offset, (szOf P f.type).getD 0)) w
  | [], _ => rfl
  | f :: fs, hf => by
    have h1 := hf f (by simp)
    cases hi : P.info? f.type with
    | none => simp [szOf, hi] at h1
    | some i =>
      simp only [List.mapM_cons, Sem.run_bind, sizeOf, typeInfo, run_program, Result.andThen_ok, hi, Sem.run_pure]
      have := mapM_places w fs (fun g hg => hf g (by simp [hg]))
      simp only [sizeOf, typeInfo] at this
      rw [this]
      simp [szOf, hi]

theorem fine_build (M : Sim h φ w S) (F : FRel h φ w S f a) {t : TypeId} {ps : Array (Nat × Operand)} {fs : Array Field} {zs : List AV} {l : List (Nat × Nat × Opnd)} (ho : o.op = .build t ps) (hu : P.underlying t = some (.struct fs)) (hz : zeroL P t = some zs)
    (hl : cParts P fs ps.toList = some l) (hall : ∀ f ∈ fs.toList, (szOf P f.type).isSome = true) {out : List AV} (he : fillA zs (l.map fun p => (p.1, p.2.1, ev f p.2.2)) = some out) : Fine P o a h φ w S (.agg out) h := by
  unfold zeroL at hz
  split at hz
  case h_2 => cases hz
  rename_i i hi
  split at hz
  case h_2 => cases hz
  rename_i z hzz
  obtain ⟨k1, k2, k3⟩ := rel_cvL (h := h) (φ := φ) (w := w) (S := S) hz true
  obtain ⟨out', e1, e2, e3, e4⟩ := fill_rel M F fs ps.toList l zs out z.cells hl he (by simpa using k1) k2 (fun j y u hy hu => k3 j y u hy (by simpa using hu)) (fun j => (fs.map fun f => (f.offset, (szOf P f.type).getD 0))[j]?) (fun j fl hfl => by
    have := hall fl (Array.mem_toList_iff.2 (Array.mem_of_getElem? hfl))
    obtain ⟨n, hn⟩ := Option.isSome_iff_exists.1 this
    exact ⟨n, hn, by simp [hfl, hn]⟩)
  refine fine_pure M (v := .agg out') ?_ (.agg true _ _ e2 e3 e4)
  have hm := mapM_places (P := P) w fs.toList hall
  simp only [execOp, ho, Instr.build, Sem.run_bind, zeroValue, typeInfo, run_program, Result.andThen_ok, hi, Sem.run_pure, hzz, run_underlying hu]
  rw [← Array.toList_mapM, Sem.run_map] at hm
  generalize hx : Sem.run P (Array.mapM _ fs) w = R at hm ⊢
  cases R with
  | halt e w' => cases hm
  | ok pl w' =>
    simp only [Result.andThen_ok, Result.ok.injEq] at hm
    obtain ⟨hm1, rfl⟩ := hm
    have hpl : pl = fs.map fun f => (f.offset, (szOf P f.type).getD 0) := Array.toList_inj.1 (by rw [hm1]; simp)
    subst hpl
    have e1' := e1
    simp only [Result.andThen_ok, Array.toList_map, e1', Sem.run_pure]

/-! ### a literal of a slice -/
theorem roL_get : ∀ {cs cs' : List AV}, roL cs = some cs' → cs'.length = cs.length ∧ ∀ (j : Nat) (y : AV), cs'[j]? = some y → ∃ x, cs[j]? = some x ∧ ro x = some y
  | [], cs', e => by
    injection e with e
    subst e
    exact ⟨rfl, fun j y hy => by simp at hy⟩
  | c :: cs, cs', e => by
    simp only [roL, Option.bind_eq_some_iff, Option.map_eq_some_iff] at e
    obtain ⟨y, hy, ys, hys, rfl⟩ := e
    obtain ⟨k1, k2⟩ := roL_get hys
    refine ⟨by simp [k1], fun j z hz => ?_⟩
    cases j with
    | zero => simp at hz; subst hz; exact ⟨c, rfl, hy⟩
    | succ j => exact k2 j z (by simpa using hz)
theorem ro_one {x y : AV} (e : ro x = some y) (h1 : x.one = true) : y.one = true := by
  cases x <;> simp only [ro, Option.some.injEq, Option.map_eq_some_iff, Option.bind_eq_some_iff] at e <;> first | (cases e; done) | (subst e; first | rfl | exact h1) | skip
  · obtain ⟨_, _, _, _, rfl⟩ := e; rfl
  · obtain ⟨_, _, rfl⟩ := e; rfl
  · cases h1
  · cases h1
theorem rel_rsl_nil (A : Option Addr) (m : Bool) : Rel h φ w S m (.rsl []) (.slice A 0 0) :=
  Rel.rsl m [] A 0 1 (fun _ _ => undef) (Nat.le_refl _) (by omega) (fun x hx => by simp at hx) (fun i j x y hx => by simp at hx) (fun i j x y hx => by simp at hx)
theorem ro_rel {m : Bool} {x : AV} {v : Value} (r : Rel h φ w S m x v) : ∀ y, ro x = some y → Rel h φ w S false y v := by
  induction r with
  | undef m v => intro y e; injection e with e; subst e; exact .undef _ v
  | bool m b => intro y e; injection e with e; subst e; exact .bool _ b
  | int m k n => intro y e; injection e with e; subst e; exact .int _ k n
  | str m s => intro y e; injection e with e; subst e; exact .str _ s
  | nilp m => intro y e; injection e with e; subst e; exact .nilp _
  | ptr i o hi => intro y e; cases e
  | rptr m cs a f hc hr ih => intro y e; injection e with e; subst e; exact .rptr _ cs a f hc hr
  | esl m A => intro y e; injection e with e; subst e; exact rel_rsl_nil A _
  | rsl m es A c sz f hl hz hs hc hr ih => intro y e; injection e with e; subst e; exact .rsl _ es A c sz f hl hz hs hc hr
  | osl t es v ht hr hk ih => intro y e; injection e with e; subst e; exact hr
  | msl i o len cap c hi hc => intro y e; cases e
  | nilmap m => intro y e; injection e with e; subst e; exact .nilmap _
  | map i hi => intro y e; cases e
  | fn m g fs cs us vs hl' hl hr' hr ih' ih =>
    intro y e
    simp only [ro, Option.map_eq_some_iff, Option.bind_eq_some_iff] at e
    obtain ⟨fs', hf, cs', hc, rfl⟩ := e
    obtain ⟨k1, k2⟩ := roL_get hf
    obtain ⟨k3, k4⟩ := roL_get hc
    refine .fn _ g _ _ us vs (by omega) (by omega) (fun j x v hx hv => ?_) (fun j x v hx hv => ?_)
    · obtain ⟨x0, e1, e2⟩ := k2 j x hx; exact ih' j x0 v e1 hv x e2
    · obtain ⟨x0, e1, e2⟩ := k4 j x hx; exact ih j x0 v e1 hv x e2
  | nilfn m => intro y e; injection e with e; subst e; exact .nilfn _
  | iface m t x v hr ih =>
    intro y e
    simp only [ro, Option.map_eq_some_iff] at e
    obtain ⟨x', hx, rfl⟩ := e
    exact .iface _ t x' v (ih x' hx)
  | nilif m => intro y e; injection e with e; subst e; exact .nilif _
  | agg m cs vs hl h1 hr ih =>
    intro y e
    simp only [ro, Option.map_eq_some_iff] at e
    obtain ⟨cs', hc, rfl⟩ := e
    obtain ⟨k3, k4⟩ := roL_get hc
    refine .agg _ _ vs (by omega) (fun j x hx => ?_) (fun j x v hx hv => ?_)
    · obtain ⟨x0, e1, e2⟩ := k4 j x hx; exact ro_one e2 (h1 j x0 e1)
    · obtain ⟨x0, e1, e2⟩ := k4 j x hx; exact ih j x0 v e1 hv x e2
  | tup m cs vs hl hr ih =>
    intro y e
    simp only [ro, Option.map_eq_some_iff] at e
    obtain ⟨cs', hc, rfl⟩ := e
    obtain ⟨k3, k4⟩ := roL_get hc
    refine .tup _ _ vs (by omega) (fun j x v hx hv => ?_)
    obtain ⟨x0, e1, e2⟩ := k4 j x hx; exact ih j x0 v e1 hv x e2

theorem nrmL_get : ∀ (cs : List AV) (j : Nat) (y : AV), (nrmL cs)[j]? = some y → ∃ x, cs[j]? = some x ∧ y = nrm x
  | [], j, y, hy => by simp [nrmL] at hy
  | c :: cs, j, y, hy => by
    cases j with
    | zero => simp [nrmL] at hy; exact ⟨c, rfl, hy.symm⟩
    | succ j => exact nrmL_get cs j y (by simpa [nrmL] using hy)
theorem nrmL_length : ∀ (cs : List AV), (nrmL cs).length = cs.length
  | [] => rfl
  | c :: cs => by simp [nrmL, nrmL_length cs]
theorem nrm_one {x : AV} (h1 : x.one = true) : (nrm x).one = true := by
  cases x <;> first | rfl | cases h1
theorem nrm_rel {m : Bool} {x : AV} {v : Value} (r : Rel h φ w S m x v) : Rel h φ w S m (nrm x) v := by
  induction r with
  | esl m A => exact rel_rsl_nil A _
  | osl t es v ht hr hk ih => exact hr.up
  | undef m v => exact .undef _ v
  | bool m b => exact .bool _ b
  | int m k n => exact .int _ k n
  | str m s => exact .str _ s
  | nilp m => exact .nilp _
  | ptr i o hi => exact .ptr i o hi
  | rptr m cs a f hc hr ih => exact .rptr _ cs a f hc hr
  | rsl m es A c sz f hl hz hs hc hr ih => exact .rsl _ es A c sz f hl hz hs hc hr
  | msl i o len cap c hi hc => exact .msl i o len cap c hi hc
  | nilmap m => exact .nilmap _
  | map i hi => exact .map i hi
  | fn m g fs cs us vs hl' hl hr' hr ih' ih =>
    refine .fn _ g _ _ us vs (by rw [nrmL_length]; exact hl') (by rw [nrmL_length]; exact hl) (fun j x v hx hv => ?_) (fun j x v hx hv => ?_)
    · obtain ⟨x0, e1, rfl⟩ := nrmL_get _ _ _ hx; exact ih' j x0 v e1 hv
    · obtain ⟨x0, e1, rfl⟩ := nrmL_get _ _ _ hx; exact ih j x0 v e1 hv
  | nilfn m => exact .nilfn _
  | iface m t x v hr ih => exact .iface _ t _ v ih
  | nilif m => exact .nilif _
  | agg m cs vs hl h1 hr ih =>
    refine .agg _ _ vs (by rw [nrmL_length]; exact hl) (fun j x hx => ?_) (fun j x v hx hv => ?_)
    · obtain ⟨x0, e1, rfl⟩ := nrmL_get _ _ _ hx; exact nrm_one (h1 j x0 e1)
    · obtain ⟨x0, e1, rfl⟩ := nrmL_get _ _ _ hx; exact ih j x0 v e1 hv
  | tup m cs vs hl hr ih =>
    refine .tup _ _ vs (by rw [nrmL_length]; exact hl) (fun j x v hx hv => ?_)
    obtain ⟨x0, e1, rfl⟩ := nrmL_get _ _ _ hx; exact ih j x0 v e1 hv

/-! ### loads and stores -/
theorem fine_load (M : Sim h φ w S) (F : FRel h φ w S f a) {t : TypeId} {y : Operand} {p : Opnd} {k : Option Nat} (ho : o.op = .load t y) (ek : aggK P t = some k) (e1 : cO y = some p) {cs : List AV} (hc : cellsAt h (ev f p) = some cs) (he : loadA k cs = some x) :
    Fine P o a h φ w S x h := by
  obtain ⟨ad, hv, hcell⟩ := rel_cellsAt M hc (rel_ev F e1)
  obtain ⟨i, hi, hagg, hsz⟩ := run_isAgg ek w
  cases k with
  | none =>
    simp only [loadA] at he
    obtain ⟨k1, u, k2, k3⟩ := hcell 0 x he
    have k2' : w.cell? ad = some u := by simpa [Addr.add] using k2
    refine fine_pure M (v := u) ?_ k3
    simp [execOp, ho, Instr.loadAt, hv, Instr.sureAddr, loadVar, hagg, k2']
  | some n =>
    obtain rfl := hsz n rfl
    simp only [loadA] at he
    split at he
    case isFalse => cases he
    rename_i hn
    injection he with he
    subst he
    have hex : ∀ j, j < i.size → ∃ u, w.cell? (ad.add j) = some u := fun j hj => by
      obtain ⟨k1, u, k2, k3⟩ := hcell j _ (List.getElem?_eq_getElem (by omega : j < cs.length))
      exact ⟨u, k2⟩
    have hl := run_loadCells (P := P) w ad i.size (fun j => (w.cell? (ad.add j)).getD undef) (fun j hj => by obtain ⟨u, hu⟩ := hex j hj; simp [hu])
    refine fine_pure M (v := .agg ((List.range i.size).map fun j => (w.cell? (ad.add j)).getD undef).toArray) ?_ (.agg true _ _ (by simp; omega) (fun j y hy => ?_) (fun j y u hy hu => ?_))
    · simp [execOp, ho, Instr.loadAt, hv, Instr.sureAddr, loadVar, hagg, Go.sizeOf, typeInfo, hi, hl]
    · rw [List.getElem?_take] at hy
      split at hy
      · exact (hcell j y hy).1
      · cases hy
    · rw [List.getElem?_take] at hy
      split at hy
      case isFalse => cases hy
      rename_i hj
      obtain ⟨k1, u', k2, k3⟩ := hcell j y hy
      simp [hj, k2] at hu
      subst hu
      exact k3

theorem setRow_other' (w : World) (g b : Nat) (cs : Array Value) (hne : b ≠ g) : (w.setRow g cs).heap[b]? = w.heap[b]? := by
  simp only [World.setRow, Array.getElem?_modify]
  rw [if_neg (fun e => hne e.symm)]

theorem fine_store (M : Sim h φ w S) (F : FRel h φ w S f a) {t : TypeId} {y z : Operand} {p q : Opnd} {n : Nat} (ho : o.op = .store t y z) (en : szOf P t = some n) (e1 : cO y = some p) (e2 : cO z = some q) (he : storeA h n (ev f p) (ev f q) = some h') :
    Fine P o a h φ w S .undef h' := by
  have r1 := rel_ev F e1
  have r2 := rel_ev F e2
  unfold storeA at he
  split at he
  case h_2 => cases he
  rename_i i off hx
  split at he
  case h_2 => cases he
  rename_i cs hb
  split at he
  case isFalse => cases he
  rename_i hc
  obtain ⟨hc1, hc2, hc3⟩ := hc
  injection he with he
  subst he
  rw [hx] at r1
  generalize hv : a.eval y = v at r1
  cases r1 with
  | ptr _ _ hi =>
    obtain ⟨arr, T, k1, k2, k3, k4, k5⟩ := M.obj i _ hb
    obtain ⟨c1, c2, c3, c4⟩ := cells_rel r2 hc3
    have hinf : ∃ ti, P.info? t = some ti ∧ ti.size = n := by
      cases hi : P.info? t with
      | none => simp [szOf, hi] at en
      | some ti => exact ⟨ti, rfl, by simpa [szOf, hi] using en⟩
    obtain ⟨ti, hti, hsz⟩ := hinf
    have hlt : off + (ev f q).cells.length ≤ cs.length := by omega
    have hst := run_storeCells_at P (φ i).blk off T (a.eval z).cells.toList 0 arr w k1 (by simp; omega) c3
    have st := turn_step M (o' := .box (setL cs off (ev f q).cells)) hb rfl rfl rfl k5 (w' := w.setRow (φ i).blk (arr.toList.take off ++ (a.eval z).cells.toList ++ arr.toList.drop (off + (a.eval z).cells.toList.length)).toArray)
      (fun b hb' => setRow_other' _ _ _ _ hb') (by simp [World.setRow]) rfl rfl rfl
    have E := st.ext M (by simp)
    refine ⟨undef, _, _, _, .inr ⟨?_, rfl⟩, st.sim M (by simp) ⟨_, T, setRow_heap w _ arr _ T (0, 0) k1, ?_, setL_one hlt k3 c2, fun j y u hy hu => ?_, k5⟩, E, .undef _ _⟩
    · simp only [Nat.add_zero] at hst
      simp [execOp, ho, Instr.storeAt, hv, Instr.sureAddr, storeVar, Go.sizeOf, typeInfo, hti, hsz, show (a.eval z).cells.size = n by omega, hst]
    · rw [length_setL hlt]; simp; omega
    · refine Rel.mono E ?_
      exact setL_rel (arr := arr.toList) (us := (a.eval z).cells.toList) hlt (by simpa using k2) (by simpa using c1) (fun j y u hy hu => k4 j y u hy (by simpa using hu)) (fun j y u hy hu => c4 j y u hy (by simpa using hu)) j y u hy (by simpa using hu)
end
end Go.Eng
