/- The engine, part 14a: objects may be forgotten: what leaves is frozen. -/
import Derived.Test.YtjljhmeadfejhaaE13
set_option linter.unusedVariables false
set_option linter.unusedSimpArgs false
namespace Go.Eng

mutual
/-- Are all ids below n? -/
def AV.bel (n : Nat) : AV → Bool
  | .ptr i _ | .msl i _ _ _ | .map i => decide (i < n)
  | .osl t _ => decide (t < n)
  | .agg cs => belL n cs
  | .tup cs => belL n cs
  | .iface _ x => x.bel n
  | .fn _ fs cs => belL n fs && belL n cs
  | _ => true
def belL (n : Nat) : List AV → Bool
  | [] => true
  | x :: l => x.bel n && belL n l
end
def AO.bel (n : Nat) : AO → Bool
  | .box cs => belL n cs
  | .map es => es.all fun e => e.2.bel n
  | _ => true

def mapO (f : AV → Option AV) : List AV → Option (List AV)
  | [] => some []
  | x :: l => (f x).bind fun y => (mapO f l).map (y :: ·)

/-- Frozen: no ids are left. -/
def frz (m : Nat) (h : List AO) : Nat → AV → Option AV
  | 0, _ => none
  | k + 1, .esl => some (.rsl [])
  | k + 1, .osl _ es => some (.rsl es)
  | k + 1, .ptr i o => if m ≤ i then (cellsAt h (.ptr i o)).bind fun cs => (mapO (frz m h k) cs).map .rptr else none
  | k + 1, .msl i o len cap => if m ≤ i ∧ len ≤ cap then (cellsAt h (.ptr i o)).bind fun cs => if len ≤ cs.length then (mapO (frz m h k) (cs.take len)).map .rsl else none else none
  | k + 1, .map _ => none
  | k + 1, .agg cs => (mapO (frz m h k) cs).map .agg
  | k + 1, .tup cs => (mapO (frz m h k) cs).map .tup
  | k + 1, .iface t x => (frz m h k x).map (.iface t)
  | k + 1, .fn g fs cs => (mapO (frz m h k) fs).bind fun fs' => (mapO (frz m h k) cs).map (.fn g fs')
  | k + 1, x => some x
/-- What is left of a value when the objects from m on are forgotten. -/
def out (m : Nat) (h : List AO) : Nat → AV → Option AV
  | 0, _ => none
  | k + 1, .osl t es => if t < m then some (.osl t es) else some (.rsl es)
  | k + 1, .ptr i o => if i < m then some (.ptr i o) else frz m h k (.ptr i o)
  | k + 1, .msl i o len cap => if i < m then some (.msl i o len cap) else frz m h k (.msl i o len cap)
  | k + 1, .map i => if i < m then some (.map i) else none
  | k + 1, .agg cs => (mapO (out m h k) cs).map .agg
  | k + 1, .tup cs => (mapO (out m h k) cs).map .tup
  | k + 1, .iface t x => (out m h k x).map (.iface t)
  | k + 1, .fn g fs cs => (mapO (out m h k) fs).bind fun fs' => (mapO (out m h k) cs).map (.fn g fs')
  | k + 1, x => some x
/-- The objects below m hold nothing from m on, but for those that are what they were. -/
def DropOk (h0 h : List AO) (m : Nat) : Prop := h0.length ≤ m ∧ ∀ i o, i < m → h[i]? = some o → h0[i]? = some o ∨ o.bel m = true
def outF (m : Nat) (h : List AO) (k : Nat) : Fr → Option Fr
  | [] => some []
  | (i, x) :: f => (out m h k x).bind fun y => (outF m h k f).map ((i, y) :: ·)

section
variable {h : List AO} {φ : Nat → Loc} {w : World} {S S' : Nat → Nat → Prop} {m : Nat}

theorem mapO_get {f : AV → Option AV} : ∀ {l l' : List AV}, mapO f l = some l' → l'.length = l.length ∧ ∀ (j : Nat) (y : AV), l'[j]? = some y → ∃ x, l[j]? = some x ∧ f x = some y
  | [], l', e => by injection e with e; subst e; exact ⟨rfl, fun j y hy => by simp at hy⟩
  | x :: l, l', e => by
    simp only [mapO, Option.bind_eq_some_iff, Option.map_eq_some_iff] at e
    obtain ⟨y, hy, l1, hl, rfl⟩ := e
    obtain ⟨k1, k2⟩ := mapO_get hl
    refine ⟨by simp [k1], fun j z hz => ?_⟩
    cases j with
    | zero => simp at hz; subst hz; exact ⟨x, rfl, hy⟩
    | succ j => simp at hz; simpa using k2 j z hz

/-- The cells of the forgotten boxes are written no more. -/
def frzS (h : List AO) (φ : Nat → Loc) (S : Nat → Nat → Prop) (m : Nat) : Nat → Nat → Prop :=
  fun b j => S b j ∨ ∃ i cs, m ≤ i ∧ h[i]? = some (.box cs) ∧ b = (φ i).blk

theorem belL_get : ∀ {cs : List AV} {n : Nat}, belL n cs = true → ∀ (j : Nat) (x : AV), cs[j]? = some x → x.bel n = true
  | [], n, _, j, x, hx => by simp at hx
  | y :: l, n, e, j, x, hx => by
    simp only [belL, Bool.and_eq_true] at e
    cases j with
    | zero => simp at hx; subst hx; exact e.1
    | succ j => exact belL_get e.2 j x (by simpa using hx)

theorem nt_take {i : Nat} (hi : nt h i) (hm : i < m) : nt (h.take m) i := by
  obtain ⟨o, k1, k2⟩ := hi
  exact ⟨o, by rw [List.getElem?_take, if_pos hm]; exact k1, k2⟩

theorem Rel.take {b : Bool} {x : AV} {v : Value} (r : Rel h φ w S b x v) (hS : ∀ b j, S b j → S' b j) : (b = true → x.bel m = true) → Rel (h.take m) φ w S' b x v := by
  induction r with
  | undef m v => intro _; exact .undef m v
  | bool m b => intro _; exact .bool m b
  | int m k n => intro _; exact .int m k n
  | str m s => intro _; exact .str m s
  | nilp m => intro _; exact .nilp m
  | ptr i o hi => intro hb; have := hb rfl; simp only [AV.bel, decide_eq_true_eq] at this; exact .ptr i o (nt_take hi this)
  | rptr m' cs a f hc hr ih => intro _; exact .rptr m' cs a f (fun j x hx => ⟨(hc j x hx).1, (hc j x hx).2.1, hS _ _ (hc j x hx).2.2⟩) (fun j x hx => ih j x hx (by simp))
  | esl m A => intro _; exact .esl m A
  | rsl m' es A c sz f hl hz hs hc hr ih =>
    intro _
    refine .rsl m' es A c sz f hl hz hs (fun i j x y hx hy => ?_) (fun i j x y hx hy => ih i j x y hx hy (by simp))
    obtain ⟨a, e, h1, h2, h3⟩ := hc i j x y hx hy
    exact ⟨a, e, h1, h2, hS _ _ h3⟩
  | osl t es v ht hr hk ih =>
    intro hb
    have := hb rfl
    simp only [AV.bel, decide_eq_true_eq] at this
    refine .osl t es v (by simp; omega) (ih (by simp)) (fun e sz n hn => hk e sz n ?_)
    rw [List.getElem?_take, if_pos this] at hn
    exact hn
  | msl i o len cap c hi hc => intro hb; have := hb rfl; simp only [AV.bel, decide_eq_true_eq] at this; exact .msl i o len cap c (nt_take hi this) hc
  | nilmap m => intro _; exact .nilmap m
  | map i hi => intro hb; have := hb rfl; simp only [AV.bel, decide_eq_true_eq] at this; exact .map i (nt_take hi this)
  | fn m' g fs cs us vs hl' hl hr' hr ih' ih =>
    intro hb
    refine .fn m' g fs cs us vs hl' hl (fun j x v hx hv => ih' j x v hx hv fun e => ?_) (fun j x v hx hv => ih j x v hx hv fun e => ?_)
    · have := hb e; simp only [AV.bel, Bool.and_eq_true] at this; exact belL_get this.1 j x hx
    · have := hb e; simp only [AV.bel, Bool.and_eq_true] at this; exact belL_get this.2 j x hx
  | nilfn m => intro _; exact .nilfn m
  | iface m' t x v hr ih => intro hb; exact .iface m' t x v (ih fun e => by simpa [AV.bel] using hb e)
  | nilif m => intro _; exact .nilif m
  | agg m' cs vs hl h1 hr ih => intro hb; exact .agg m' cs vs hl h1 (fun j x v hx hv => ih j x v hx hv fun e => belL_get (by simpa [AV.bel] using hb e) j x hx)
  | tup m' cs vs hl hr ih => intro hb; exact .tup m' cs vs hl (fun j x v hx hv => ih j x v hx hv fun e => belL_get (by simpa [AV.bel] using hb e) j x hx)

theorem frz_ptr {k i o : Nat} {y : AV} (e : frz m h (k + 1) (.ptr i o) = some y) : m ≤ i ∧ ∃ cs l, cellsAt h (.ptr i o) = some cs ∧ mapO (frz m h k) cs = some l ∧ y = .rptr l := by
  simp only [frz] at e
  split at e
  · simp only [Option.bind_eq_some_iff, Option.map_eq_some_iff] at e
    obtain ⟨cs, k1, l, k2, rfl⟩ := e
    exact ⟨by assumption, cs, l, k1, k2, rfl⟩
  · cases e
theorem frz_msl {k i o len cap : Nat} {y : AV} (e : frz m h (k + 1) (.msl i o len cap) = some y) : m ≤ i ∧ len ≤ cap ∧ ∃ cs l, cellsAt h (.ptr i o) = some cs ∧ len ≤ cs.length ∧ mapO (frz m h k) (cs.take len) = some l ∧ y = .rsl l := by
  simp only [frz] at e
  split at e
  · rename_i hm
    simp only [Option.bind_eq_some_iff] at e
    obtain ⟨cs, k1, e⟩ := e
    split at e
    · rename_i hl
      obtain ⟨l, k2, rfl⟩ := Option.map_eq_some_iff.1 e
      exact ⟨hm.1, hm.2, cs, l, k1, hl, k2, rfl⟩
    · cases e
  · cases e
theorem frz_one {k : Nat} {x y : AV} (e : frz m h k x = some y) (h1 : x.one = true) : y.one = true := by
  cases k with
  | zero => cases e
  | succ k =>
    cases x with
    | ptr i o => obtain ⟨_, _, _, _, _, rfl⟩ := frz_ptr e; rfl
    | msl i o len cap => obtain ⟨_, _, _, _, _, _, _, rfl⟩ := frz_msl e; rfl
    | map i => cases e
    | agg cs => cases h1
    | tup cs => cases h1
    | iface t x => simp only [frz, Option.map_eq_some_iff] at e; obtain ⟨_, _, rfl⟩ := e; rfl
    | fn g fs cs => simp only [frz, Option.bind_eq_some_iff, Option.map_eq_some_iff] at e; obtain ⟨_, _, _, _, rfl⟩ := e; rfl
    | _ => simp only [frz] at e; injection e with e; subst e; first | rfl | exact h1
theorem out_one {k : Nat} {x y : AV} (e : out m h k x = some y) (h1 : x.one = true) : y.one = true := by
  cases k with
  | zero => cases e
  | succ k =>
    cases x with
    | ptr i o => simp only [out] at e; split at e; · injection e with e; subst e; rfl
                 · exact frz_one e rfl
    | msl i o len cap => simp only [out] at e; split at e; · injection e with e; subst e; rfl
                         · exact frz_one e rfl
    | map i => simp only [out] at e; split at e; · injection e with e; subst e; rfl
               · cases e
    | osl t es => simp only [out] at e; split at e <;> (injection e with e; subst e; rfl)
    | agg cs => cases h1
    | tup cs => cases h1
    | iface t x => simp only [out, Option.map_eq_some_iff] at e; obtain ⟨_, _, rfl⟩ := e; rfl
    | fn g fs cs => simp only [out, Option.bind_eq_some_iff, Option.map_eq_some_iff] at e; obtain ⟨_, _, _, _, rfl⟩ := e; rfl
    | _ => simp only [out] at e; injection e with e; subst e; first | rfl | exact h1

/-- What is frozen is a read-only tree. -/
theorem frz_rel (M : Sim h φ w S) : ∀ (k : Nat) {x y : AV} {v : Value}, frz m h k x = some y → Rel h φ w S true x v → Rel (h.take m) φ w (frzS h φ S m) false y v := by
  have hS : ∀ b j, S b j → frzS h φ S m b j := fun b j k => .inl k
  intro k
  induction k with
  | zero => intro x y v e; cases e
  | succ k ih =>
    intro x y v e r
    have cellsOf : ∀ {i o : Nat} {cs l : List AV} {b : Nat} (hm : m ≤ i) (hc : cellsAt h (.ptr i o) = some cs) (hr : Rel h φ w S true (.ptr i o) (.pointer (some ⟨(φ i).blk, o, none⟩))),
        ∀ (j : Nat) (x : AV), cs[j]? = some x → x.one = true ∧ ∃ u, w.cell? ((⟨(φ i).blk, o, none⟩ : Addr).add j) = some u ∧ Rel h φ w S true x u ∧ frzS h φ S m (φ i).blk (o + j) := by
      intro i o cs l b hm hc hr j x hx
      obtain ⟨a, ha, hall⟩ := rel_cellsAt M hc hr
      injection ha with ha; injection ha with ha; subst ha
      obtain ⟨k1, u, k2, k3⟩ := hall j x hx
      refine ⟨k1, u, k2, k3, .inr ?_⟩
      simp only [cellsAt] at hc
      split at hc
      · rename_i cs0 hb; exact ⟨i, cs0, hm, hb, rfl⟩
      · cases hc
    cases x with
    | ptr i o =>
      obtain ⟨hm, cs, l, hc, hl, rfl⟩ := frz_ptr e
      cases r with
      | ptr _ _ hi =>
        have H := cellsOf (l := l) (b := 0) hm hc (.ptr i o hi)
        obtain ⟨n1, n2⟩ := mapO_get hl
        refine .rptr false l _ (fun j => (w.cell? ((⟨(φ i).blk, o, none⟩ : Addr).add j)).getD undef) (fun j y hy => ?_) (fun j y hy => ?_)
        · obtain ⟨x, hx, hf⟩ := n2 j y hy
          obtain ⟨k1, u, k2, k3, k4⟩ := H j x hx
          exact ⟨frz_one hf k1, by rw [k2]; rfl, k4⟩
        · obtain ⟨x, hx, hf⟩ := n2 j y hy
          obtain ⟨k1, u, k2, k3, k4⟩ := H j x hx
          rw [k2]
          exact ih hf k3
    | msl i o len cap =>
      obtain ⟨hm, hle, cs, l, hc, hlen, hl, rfl⟩ := frz_msl e
      cases r with
      | msl _ _ _ _ rc hi hrc =>
        have H := cellsOf (l := l) (b := 0) hm hc (.ptr i o hi)
        obtain ⟨n1, n2⟩ := mapO_get hl
        have n1' : l.length = len := by rw [n1]; simp [hlen]
        have G : ∀ (j : Nat) (y : AV), l[j]? = some y → y.one = true ∧ ∃ u, w.cell? ((⟨(φ i).blk, o, none⟩ : Addr).add j) = some u ∧ Rel (h.take m) φ w (frzS h φ S m) false y u ∧ frzS h φ S m (φ i).blk (o + j) := by
          intro j y hy
          obtain ⟨x, hx, hf⟩ := n2 j y hy
          have hj : j < len := by rw [← n1']; exact (List.getElem?_eq_some_iff.1 hy).1
          rw [List.getElem?_take, if_pos hj] at hx
          obtain ⟨k1, u, k2, k3, k4⟩ := H j x hx
          exact ⟨frz_one hf k1, u, k2, ih hf k3, k4⟩
        have C1 : ∀ y : AV, y.one = true → y.cells = [y] := fun y hy => by cases y <;> first | rfl | cases hy
        have r : Rel (h.take m) φ w (frzS h φ S m) false (.rsl l) (.slice (some ⟨(φ i).blk, o, none⟩) l.length rc) := by
          refine .rsl false l (some ⟨(φ i).blk, o, none⟩) rc 1 (fun a _ => (w.cell? ((⟨(φ i).blk, o, none⟩ : Addr).add a)).getD undef) (by omega) (by omega) (fun y hy => ?_) (fun a b x y hx hy => ?_) (fun a b x y hx hy => ?_)
          · obtain ⟨j, hj, rfl⟩ := List.getElem_of_mem hy
            rw [C1 _ (G j _ (List.getElem?_eq_getElem hj)).1]; rfl
          · obtain ⟨g1, u, g2, g3, g4⟩ := G a x hx
            rw [C1 x g1] at hy
            cases b with
            | succ b => simp at hy
            | zero => simp at hy; subst hy; exact ⟨_, rfl, g1, by simp [g2], by simpa using g4⟩
          · obtain ⟨g1, u, g2, g3, g4⟩ := G a x hx
            rw [C1 x g1] at hy
            cases b with
            | succ b => simp at hy
            | zero => simp at hy; subst hy; rw [g2]; exact g3
        rw [n1'] at r
        exact r
    | map i => cases e
    | esl => injection e with e; subst e; cases r with | esl _ A => exact .rsl false [] A 0 1 (fun _ _ => undef) (by simp) (by omega) (by simp) (fun i j x y hx => by simp at hx) (fun i j x y hx => by simp at hx)
    | osl t es => injection e with e; subst e; cases r with | osl _ _ _ ht hr hk => exact hr.take hS (by simp)
    | agg cs =>
      simp only [frz, Option.map_eq_some_iff] at e
      obtain ⟨l, hl, rfl⟩ := e
      obtain ⟨n1, n2⟩ := mapO_get hl
      cases r with
      | agg _ _ vs hl' h1 hr =>
        refine .agg false l vs (by omega) (fun j y hy => ?_) (fun j y v hy hv => ?_)
        · obtain ⟨x, hx, hf⟩ := n2 j y hy; exact frz_one hf (h1 j x hx)
        · obtain ⟨x, hx, hf⟩ := n2 j y hy; exact ih hf (hr j x v hx hv)
    | tup cs =>
      simp only [frz, Option.map_eq_some_iff] at e
      obtain ⟨l, hl, rfl⟩ := e
      obtain ⟨n1, n2⟩ := mapO_get hl
      cases r with
      | tup _ _ vs hl' hr =>
        refine .tup false l vs (by omega) (fun j y v hy hv => ?_)
        obtain ⟨x, hx, hf⟩ := n2 j y hy; exact ih hf (hr j x v hx hv)
    | iface t x =>
      simp only [frz, Option.map_eq_some_iff] at e
      obtain ⟨y, hy, rfl⟩ := e
      cases r with | iface _ _ _ v hr => exact .iface false t y v (ih hy hr)
    | fn g fs cs =>
      simp only [frz, Option.bind_eq_some_iff, Option.map_eq_some_iff] at e
      obtain ⟨fs', hf1, cs', hf2, rfl⟩ := e
      obtain ⟨n1, n2⟩ := mapO_get hf1
      obtain ⟨n3, n4⟩ := mapO_get hf2
      cases r with
      | fn _ _ _ _ us vs hl' hl hr' hr =>
        refine .fn false g fs' cs' us vs (by omega) (by omega) (fun j y v hy hv => ?_) (fun j y v hy hv => ?_)
        · obtain ⟨x, hx, hf⟩ := n2 j y hy; exact ih hf (hr' j x v hx hv)
        · obtain ⟨x, hx, hf⟩ := n4 j y hy; exact ih hf (hr j x v hx hv)
    | rptr cs => injection e with e; subst e; cases r with | rptr _ _ a f hc hr => exact (Rel.rptr (h := h) (φ := φ) false cs a f hc hr).take hS (by simp)
    | rsl es => injection e with e; subst e; cases r with | rsl _ _ A c sz f hl hz hs hc hr => exact (Rel.rsl (h := h) (φ := φ) false es A c sz f hl hz hs hc hr).take hS (by simp)
    | undef => injection e with e; subst e; exact .undef _ _
    | bool b => injection e with e; subst e; cases r; exact .bool _ _
    | int k n => injection e with e; subst e; cases r; exact .int _ _ _
    | str s => injection e with e; subst e; cases r; exact .str _ _
    | nilp => injection e with e; subst e; cases r; exact .nilp _
    | nilmap => injection e with e; subst e; cases r; exact .nilmap _
    | nilfn => injection e with e; subst e; cases r; exact .nilfn _
    | nilif => injection e with e; subst e; cases r; exact .nilif _

theorem out_rel (M : Sim h φ w S) : ∀ (k : Nat) {x y : AV} {v : Value}, out m h k x = some y → Rel h φ w S true x v → Rel (h.take m) φ w (frzS h φ S m) true y v := by
  have hS : ∀ b j, S b j → frzS h φ S m b j := fun b j k => .inl k
  intro k
  induction k with
  | zero => intro x y v e; cases e
  | succ k ih =>
    intro x y v e r
    cases x with
    | ptr i o =>
      simp only [out] at e
      split at e
      · rename_i hm; injection e with e; subst e; exact r.take hS (fun _ => by simpa [AV.bel] using hm)
      · exact (frz_rel M k e r).up
    | msl i o len cap =>
      simp only [out] at e
      split at e
      · rename_i hm; injection e with e; subst e; exact r.take hS (fun _ => by simpa [AV.bel] using hm)
      · exact (frz_rel M k e r).up
    | map i =>
      simp only [out] at e
      split at e
      · rename_i hm; injection e with e; subst e; exact r.take hS (fun _ => by simpa [AV.bel] using hm)
      · cases e
    | osl t es =>
      simp only [out] at e
      split at e
      · rename_i hm; injection e with e; subst e; exact r.take hS (fun _ => by simpa [AV.bel] using hm)
      · injection e with e; subst e; cases r with | osl _ _ _ ht hr hk => exact (hr.take hS (by simp)).up
    | agg cs =>
      simp only [out, Option.map_eq_some_iff] at e
      obtain ⟨l, hl, rfl⟩ := e
      obtain ⟨n1, n2⟩ := mapO_get hl
      cases r with
      | agg _ _ vs hl' h1 hr =>
        refine .agg true l vs (by omega) (fun j y hy => ?_) (fun j y v hy hv => ?_)
        · obtain ⟨x, hx, hf⟩ := n2 j y hy; exact out_one hf (h1 j x hx)
        · obtain ⟨x, hx, hf⟩ := n2 j y hy; exact ih hf (hr j x v hx hv)
    | tup cs =>
      simp only [out, Option.map_eq_some_iff] at e
      obtain ⟨l, hl, rfl⟩ := e
      obtain ⟨n1, n2⟩ := mapO_get hl
      cases r with
      | tup _ _ vs hl' hr =>
        refine .tup true l vs (by omega) (fun j y v hy hv => ?_)
        obtain ⟨x, hx, hf⟩ := n2 j y hy; exact ih hf (hr j x v hx hv)
    | iface t x =>
      simp only [out, Option.map_eq_some_iff] at e
      obtain ⟨y, hy, rfl⟩ := e
      cases r with | iface _ _ _ v hr => exact .iface true t y v (ih hy hr)
    | fn g fs cs =>
      simp only [out, Option.bind_eq_some_iff, Option.map_eq_some_iff] at e
      obtain ⟨fs', hf1, cs', hf2, rfl⟩ := e
      obtain ⟨n1, n2⟩ := mapO_get hf1
      obtain ⟨n3, n4⟩ := mapO_get hf2
      cases r with
      | fn _ _ _ _ us vs hl' hl hr' hr =>
        refine .fn true g fs' cs' us vs (by omega) (by omega) (fun j y v hy hv => ?_) (fun j y v hy hv => ?_)
        · obtain ⟨x, hx, hf⟩ := n2 j y hy; exact ih hf (hr' j x v hx hv)
        · obtain ⟨x, hx, hf⟩ := n4 j y hy; exact ih hf (hr j x v hx hv)
    | esl => injection e with e; subst e; exact r.take hS (fun _ => rfl)
    | rptr cs => injection e with e; subst e; exact r.take hS (fun _ => rfl)
    | rsl es => injection e with e; subst e; exact r.take hS (fun _ => rfl)
    | undef => injection e with e; subst e; exact .undef _ _
    | bool b => injection e with e; subst e; cases r; exact .bool _ _
    | int k n => injection e with e; subst e; cases r; exact .int _ _ _
    | str s => injection e with e; subst e; cases r; exact .str _ _
    | nilp => injection e with e; subst e; cases r; exact .nilp _
    | nilmap => injection e with e; subst e; cases r; exact .nilmap _
    | nilfn => injection e with e; subst e; cases r; exact .nilfn _
    | nilif => injection e with e; subst e; cases r; exact .nilif _

/-- The objects from m on are forgotten. -/
theorem sim_take (M : Sim h φ w S) (hb : ∀ i o, i < m → h[i]? = some o → o.bel m = true) : Sim (h.take m) φ w (frzS h φ S m) := by
  have hS : ∀ b j, S b j → frzS h φ S m b j := fun b j k => .inl k
  have get : ∀ (i : Nat) (o : AO), (h.take m)[i]? = some o → i < m ∧ h[i]? = some o := by
    intro i o ho
    rw [List.getElem?_take] at ho
    split at ho
    · exact ⟨by assumption, ho⟩
    · cases ho
  refine ⟨fun i o ho => ?_, fun i j oi oj hi hj di dj e => M.inj i j oi oj (get i oi hi).2 (get j oj hj).2 di dj e, fun b j k => ?_⟩
  · obtain ⟨hi, ho⟩ := get i o ho
    have r := M.obj i o ho
    have bel := hb i o hi ho
    have keep : o.isDead = false → ∀ j, frzS h φ S m (φ i).blk j → S (φ i).blk j := by
      intro hd j k
      rcases k with k | ⟨i', cs, hm, hc, e⟩
      · exact k
      · have := M.inj i i' o _ ho hc hd rfl e
        omega
    cases o with
    | box cs =>
      obtain ⟨arr, T, k1, k2, k3, k4, k5⟩ := r
      simp only [AO.bel] at bel
      exact ⟨arr, T, k1, k2, k3, fun j x v hx hv => (k4 j x v hx hv).take hS (fun _ => belL_get bel j x hx), fun j hj => k5 j (keep rfl j hj)⟩
    | tok e sz n =>
      obtain ⟨arr, k1, k2, k3, k4, k5⟩ := r
      exact ⟨arr, k1, k2, k3, k4, fun j hj hS' => k5 j hj (keep rfl j hS')⟩
    | map es =>
      obtain ⟨arr, clock, k1, k2, k3, k4⟩ := r
      refine ⟨arr, clock, k1, k2, fun j x e hx he => ⟨(k3 j x e hx he).1.take hS (by simp), (k3 j x e hx he).2.take hS (fun _ => ?_)⟩, fun j hj => k4 j (keep rfl j hj)⟩
      simp only [AO.bel, List.all_eq_true] at bel
      exact bel x (List.mem_of_getElem? hx)
    | siter s pos => exact ⟨r.1, fun j hj => r.2 j (keep rfl j hj)⟩
    | dead => trivial
  · rcases k with k | ⟨i, cs, _, hc, rfl⟩
    · exact M.stab b j k
    · exact (M.obj i _ hc).lt rfl

theorem ext_take {h0 : List AO} {φ0 : Nat → Loc} {w0 : World} {S0 : Nat → Nat → Prop} (E : Ext h0 φ0 w0 S0 h φ w S) (hm : h0.length ≤ m) : Ext h0 φ0 w0 S0 (h.take m) φ w (frzS h φ S m) where
  len := by rw [List.length_take]; exact Nat.le_min.2 ⟨hm, E.len⟩
  stab := fun b o k => .inl (E.stab b o k)
  cell := E.cell
  same := fun i hi => by
    obtain ⟨o, k1, k2⟩ := hi
    have := (List.getElem?_eq_some_iff.1 k1).1
    obtain ⟨q1, q2⟩ := E.same i ⟨o, k1, k2⟩
    exact ⟨nt_take q1 (by omega), q2⟩
  tok := fun i e sz n hn hi => by
    rw [List.getElem?_take, if_pos (by omega)] at hn
    exact E.tok i e sz n hn hi
  live := fun i o ho hd => by
    rw [List.getElem?_take] at ho
    split at ho
    · exact E.live i o ho hd
    · cases ho
  frame := E.frame
  os := E.os
  tape := E.tape
  output := E.output
  size := E.size
  news := fun b o k => by
    rcases k with k | ⟨i, cs, _, hc, rfl⟩
    · exact E.news b o k
    · rcases E.live i _ hc rfl with ⟨x, k1, k2, k3⟩ | k1
      · exact .inr (.inr ⟨i, x, k1, k2, k3.symm⟩)
      · exact .inr (.inl k1)

theorem lk_outF {k : Nat} : ∀ {f f' : Fr}, outF m h k f = some f' → ∀ (j : Nat) (z : AV), lk f' j = some z → ∃ x, lk f j = some x ∧ out m h k x = some z
  | [], f', e => by injection e with e; subst e; intro j z hz; cases hz
  | (i, x) :: f, f', e => by
    simp only [outF, Option.bind_eq_some_iff, Option.map_eq_some_iff] at e
    obtain ⟨y, hy, g, hg, rfl⟩ := e
    intro j z hz
    simp only [lk] at hz ⊢
    split at hz
    · rename_i hj
      injection hz with hz; subst hz
      exact ⟨x, by rw [if_pos hj], hy⟩
    · rename_i hj
      rw [if_neg hj]
      exact lk_outF hg j z hz
theorem outF_rel (M : Sim h φ w S) {k : Nat} {a : Act} {f f' : Fr} (e : outF m h k f = some f') (F : FRel h φ w S f a) : FRel (h.take m) φ w (frzS h φ S m) f' a := by
  intro j z hz
  obtain ⟨x, hx, ho⟩ := lk_outF e j z hz
  obtain ⟨v, k1, k2⟩ := F j x hx
  exact ⟨v, k1, out_rel M k ho k2⟩

theorem belL_of : ∀ {cs : List AV} {n : Nat}, (∀ (j : Nat) (x : AV), cs[j]? = some x → x.bel n = true) → belL n cs = true
  | [], n, _ => rfl
  | x :: l, n, H => by
    simp only [belL, Bool.and_eq_true]
    exact ⟨H 0 x rfl, belL_of fun j y hy => H (j + 1) y (by simpa using hy)⟩

theorem bel_zip {cs : List AV} {vs : Array Value} {n : Nat} (hl : cs.length = vs.size) (ih : ∀ (j : Nat) (x : AV) (v : Value), cs[j]? = some x → vs[j]? = some v → x.bel n = true) : belL n cs = true := by
  refine belL_of fun j x hx => ?_
  have hj : j < vs.size := by rw [← hl]; exact (List.getElem?_eq_some_iff.1 hx).1
  exact ih j x vs[j] hx (Array.getElem?_eq_getElem hj)
theorem rel_bel {b : Bool} {x : AV} {v : Value} (r : Rel h φ w S b x v) {n : Nat} (hn : h.length ≤ n) : x.bel n = true := by
  have lt : ∀ {i : Nat}, nt h i → i < n := fun ⟨o, k, _⟩ => Nat.lt_of_lt_of_le (List.getElem?_eq_some_iff.1 k).1 hn
  induction r with
  | ptr i o hi => simpa [AV.bel] using lt hi
  | msl i o len cap c hi hc => simpa [AV.bel] using lt hi
  | map i hi => simpa [AV.bel] using lt hi
  | osl t es v ht hr hk ih => simp [AV.bel]; omega
  | fn m g fs cs us vs hl' hl hr' hr ih' ih =>
    simp only [AV.bel, Bool.and_eq_true]
    exact ⟨bel_zip hl' ih', bel_zip hl ih⟩
  | iface m t x v hr ih => simpa [AV.bel] using ih
  | agg m cs vs hl h1 hr ih =>
    simp only [AV.bel]
    exact bel_zip hl ih
  | tup m cs vs hl hr ih =>
    simp only [AV.bel]
    exact bel_zip hl ih
  | _ => rfl

theorem obj_bel (M : Sim h φ w S) {i : Nat} {o : AO} (ho : h[i]? = some o) {n : Nat} (hn : h.length ≤ n) : o.bel n = true := by
  have r := M.obj i o ho
  cases o with
  | box cs =>
    obtain ⟨arr, T, k1, k2, k3, k4, k5⟩ := r
    simp only [AO.bel]
    refine belL_of fun j x hx => ?_
    have hj : j < arr.size := Nat.lt_of_lt_of_le (List.getElem?_eq_some_iff.1 hx).1 k2
    exact rel_bel (k4 j x arr[j] hx (Array.getElem?_eq_getElem hj)) hn
  | map es =>
    obtain ⟨arr, clock, k1, k2, k3, k4⟩ := r
    simp only [AO.bel, List.all_eq_true]
    intro x hx
    obtain ⟨j, hj, rfl⟩ := List.getElem_of_mem hx
    exact rel_bel (k3 j _ (arr[j]'(by omega)) (List.getElem?_eq_getElem hj) (Array.getElem?_eq_getElem (by omega))).2 hn
  | _ => rfl

theorem DropOk.bel {h0 : List AO} {φ0 : Nat → Loc} {w0 : World} {S0 : Nat → Nat → Prop} (D : DropOk h0 h m) (M0 : Sim h0 φ0 w0 S0) : ∀ i o, i < m → h[i]? = some o → o.bel m = true := by
  intro i o hi ho
  rcases D.2 i o hi ho with k | k
  · exact obj_bel M0 k D.1
  · exact k
theorem DropOk.app (h0 l : List AO) : DropOk h0 (h0 ++ l) h0.length :=
  ⟨Nat.le_refl _, fun i o hi ho => .inl (by rw [List.getElem?_append_left hi] at ho; exact ho)⟩
end
end Go.Eng
