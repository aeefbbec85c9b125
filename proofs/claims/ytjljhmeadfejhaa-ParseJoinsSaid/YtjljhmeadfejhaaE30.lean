/- The engine, part 30: slices.Clone, by its contract. -/
import Derived.Test.YtjljhmeadfejhaaE29
import Derived.Shelf.SlicesE.Clone
import Derived.Shelf.RegionOpenPlain
import Derived.Deep.LoopGhost
import Derived.Lib.Walk
import Derived.Lib.SliceRun
set_option linter.unusedVariables false
set_option linter.unusedSimpArgs false
namespace Go.Proofs
open Go.Shelf Go.RowKit Go.Lib
variable {P : Program} {ρ : Ren}
set_option maxHeartbeats 2000000 in
set_option maxRecDepth 100000 in
/-- slices.Clone of an empty row that is not nil, wherever it lies. -/
theorem clone_empty (L : SlLaysE0.n41 P ρ) (i0 : TypeInfo) (z : Value) (size bytes : Nat) (hi : P.info? (ρ.t 23) = some i0) (hz0 : i0.zero = some z) (hz1 : i0.size = size) (hz2 : i0.bytes = bytes) (hzs : z.cells.size = size) (hsz : 0 < size)
    (z23 : ∀ w, (Go.sizeOf (ρ.t 23)).run P w = .ok size w) (ad : Addr) (c : Nat) (w : World) :
    Calls P (ρ.f 41) #[.slice (some ad) 0 c] w fun e w' => ∃ v', e = .returned v' ∧ w'.ownsRow w.heap.size (ρ.t 23) size v' 0 [] ∧ Below w.heap.size w w' := by
  have mixed := L.mixed; have t4 := L.t4; have a4 := L.a4; have z4 := L.z4; have v4 := L.v4; have t22 := L.t22; have a22 := L.a22; have z22 := L.z22; have v22 := L.v22
  have nilq : ∀ (w : World) (a : Option Addr) (n c n' c' : Nat), (binOp .eql (ρ.t 22) (.slice a n c) (.slice none n' c')).run P w = .ok (.bool a.isNone) w := fun w a n c n' c' => Lib.run_eql_slice_nil w _ _ a n c n' c' L.t22
  have und : ∀ w, Sem.run P (underlying (ρ.t 22)) w = .ok (TypeDesc.slice (ρ.t 23)) w := run_underlying t22
  obtain ⟨_, _, FG⟩ := L.f41
  go_enter FG, SlBodyN.n41_ntmps ρ
  go_wp2_with (at_builtin; refine wpList_append_own _ rfl _ _ (ρ.t 22) rfl w.heap.size (ρ.t 23) i0 z size bytes t22 hi hz0 hz1 hz2 hzs hsz _ _ _ rfl (World.ownsRow_made w #[] 0 (Nat.le_refl _) (Nat.zero_le _) (by simp)) ad 0 c [] rfl ?a1 ?a2 ?a3 ?a4 ?a5 ?a6 ?_)
  case a1 => simp
  case a2 => intro j u e; simp at e
  case a3 => intro u e; simp at e
  case a4 => simp
  case a5 => simp
  case a6 => simp
  intro v' w1 hown hgrow hnil
  go_wp2
  go_ret
  exact ⟨v', rfl, by simpa using hown, ((Below.refl _ w).alloc (Nat.le_refl _) _).grown hgrow (by simp) (by intro k hk; simp [Value.ownBlock] at hk; omega)⟩
end Go.Proofs
namespace Go.Eng
open Go.Shelf Go.Proofs
section
variable {h : List AO} {φ : Nat → Loc} {w : World} {S : Nat → Nat → Prop}
/-- A block that nothing stands for yet is taken in. -/
theorem box_in (M : Sim h φ w S) {zs : List AV} {b : Nat} {arr : Array Value} {T : TypeId} (k1 : w.heap[b]? = some (.cells arr T (0, 0))) (k2 : zs.length ≤ arr.size) (k3 : ∀ (j : Nat) (y : AV), zs[j]? = some y → y.one = true)
    (k4 : ∀ (j : Nat) (y : AV) (u : Value), zs[j]? = some y → arr[j]? = some u → Rel h φ w S true y u) (e3 : ∀ j, ¬ S b j) (e4 : ∀ (i : Nat) (o : AO), h[i]? = some o → o.isDead = false → (φ i).blk ≠ b) :
    Sim (h ++ [.box zs]) (updφ φ h.length ⟨b, 0⟩) w S ∧ RExt h φ w S (h ++ [.box zs]) (updφ φ h.length ⟨b, 0⟩) w S ∧
    ∀ {h0 : List AO} {φ0 : Nat → Loc} {w0 : World} {S0 : Nat → Nat → Prop}, w0.heap.size ≤ b → Ext h0 φ0 w0 S0 h φ w S → Ext h0 φ0 w0 S0 (h ++ [.box zs]) (updφ φ h.length ⟨b, 0⟩) w S := by
  have old : ∀ (i : Nat) (o : AO), i < h.length → ((h ++ [AO.box zs])[i]? = some o ↔ h[i]? = some o) := fun i o hi => by rw [List.getElem?_append_left hi]
  have cases_ : ∀ (i : Nat) (o : AO), (h ++ [AO.box zs])[i]? = some o → (i < h.length ∧ h[i]? = some o) ∨ (i = h.length ∧ o = .box zs) := by
    intro i o ho
    rcases Nat.lt_trichotomy i h.length with hi | hi | hi
    · exact .inl ⟨hi, (old i o hi).1 ho⟩
    · subst hi
      simp at ho
      exact .inr ⟨rfl, ho.symm⟩
    · rw [List.getElem?_eq_none (by simp; omega)] at ho; cases ho
  have hφ : ∀ i, i < h.length → updφ φ h.length ⟨b, 0⟩ i = φ i := fun i hi => updφ_other _ _ _ (by omega)
  have R : RExt h φ w S (h ++ [.box zs]) (updφ φ h.length ⟨b, 0⟩) w S :=
    { len := by simp
      stab := fun _ _ k => k
      cell := fun _ _ _ => rfl
      same := fun i ⟨o, q1, q2⟩ => by
        have hi := (List.getElem?_eq_some_iff.1 q1).1
        exact ⟨⟨o, (old i o hi).2 q1, q2⟩, by rw [hφ i hi]⟩
      tok := fun i e sz n hn hi => .inl ⟨(old i _ hi).1 hn, hφ i hi⟩ }
  refine ⟨⟨fun i o ho => ?_, fun i j oi oj hi hj di dj ee => ?_, M.stab⟩, R, fun {h0 φ0 w0 S0} e1 E => ?_⟩
  · rcases cases_ i o ho with ⟨hi, ho⟩ | ⟨rfl, rfl⟩
    · rw [hφ i hi]
      exact (M.obj i o ho).rmono R rfl (fun _ k => k)
    · simp only [updφ_same]
      exact ⟨arr, T, k1, k2, k3, fun j x v hx hv => (k4 j x v hx hv).rmono R, e3⟩
  · rcases cases_ i oi hi with ⟨hi', hi⟩ | ⟨rfl, rfl⟩ <;> rcases cases_ j oj hj with ⟨hj', hj⟩ | ⟨rfl, rfl⟩
    · rw [hφ i hi', hφ j hj'] at ee
      exact M.inj i j oi oj hi hj di dj ee
    · rw [hφ i hi', updφ_same] at ee
      exact absurd ee (e4 i oi hi di)
    · rw [hφ j hj', updφ_same] at ee
      exact absurd ee.symm (e4 j oj hj dj)
    · rfl
  · exact
    { len := Nat.le_trans E.len (by simp)
      stab := E.stab
      cell := E.cell
      same := fun i hi => by
        obtain ⟨q1, q2⟩ := E.same i hi
        obtain ⟨r1, r2⟩ := R.same i q1
        exact ⟨r1, r2.trans q2⟩
      tok := fun i e sz n hn hi => by
        have hi' : i < h.length := Nat.lt_of_lt_of_le hi E.len
        rw [hφ i hi']
        exact E.tok i e sz n ((old i _ hi').1 hn) hi
      live := fun i o ho hd => by
        rcases cases_ i o ho with ⟨hi, ho⟩ | ⟨rfl, rfl⟩
        · rw [hφ i hi]; exact E.live i o ho hd
        · rw [updφ_same]; exact .inr e1
      frame := E.frame
      os := E.os
      tape := E.tape
      output := E.output
      size := E.size
      news := E.news }
end

def cellsL (es : List AV) : List AV := (es.map AV.cells).flatten
theorem cellsL_get {sz : Nat} : ∀ {es : List AV}, (∀ x ∈ es, x.cells.length = sz) → ∀ (j : Nat) (y : AV), (cellsL es)[j]? = some y → ∃ (i k : Nat) (x : AV), es[i]? = some x ∧ x.cells[k]? = some y ∧ j = i * sz + k
  | [], _, j, y, e => by simp [cellsL] at e
  | x :: es, hs, j, y, e => by
    simp only [cellsL, List.map_cons, List.flatten_cons] at e
    have hx := hs x (by simp)
    rw [List.getElem?_append] at e
    split at e
    · exact ⟨0, j, x, rfl, e, by omega⟩
    · obtain ⟨i, k, z, h1, h2, h3⟩ := cellsL_get (fun z hz => hs z (by simp [hz])) (j - x.cells.length) y e
      refine ⟨i + 1, k, z, h1, h2, ?_⟩
      rw [Nat.succ_mul]; omega
theorem cellsL_len {sz : Nat} : ∀ {es : List AV}, (∀ x ∈ es, x.cells.length = sz) → (cellsL es).length = es.length * sz
  | [], _ => by simp [cellsL]
  | x :: es, hs => by
    simp only [cellsL, List.map_cons, List.flatten_cons, List.length_append, List.length_cons]
    have := cellsL_len (es := es) (fun z hz => hs z (by simp [hz]))
    simp only [cellsL] at this
    rw [this, hs x (by simp), Nat.succ_mul]; omega

/-- slices.Clone of a read-only row. -/
theorem WC_clone {P : Pg} {ρ : Ren} (L : SlLaysE0.n41 P.prog ρ) {g : FuncId} (hg : ρ.f 41 = g) {fn : Func} {c : Code} (hf : P.prog.funcs[g]? = some fn) (hb : fn.body = some c) (hn : (fn.name == "runtime.NumGoroutine") = false)
    {i0 : TypeInfo} {z : Value} {sz bytes : Nat} (hi : P.prog.info? (ρ.t 23) = some i0) (hz0 : i0.zero = some z) (hz1 : i0.size = sz) (hz2 : i0.bytes = bytes) (hzs : z.cells.size = sz) (hsz : 0 < sz) (z23 : ∀ w, (Go.sizeOf (ρ.t 23)).run P.prog w = .ok sz w)
    {es : List AV} (hs : ∀ x ∈ es, x.cells.length = sz) (hm : es.length ≤ maxLen) (hbig : es.length * bytes ≤ 140737488355328) {h : List AO} {K : ARes → List AO → Prop}
    (k : if es = [] then K (.ok (.rsl [])) h else K (.ok (.msl h.length 0 es.length es.length)) (h ++ [.box (cellsL es)])) : WC P g [.rsl es] h K := by
  intro φ w S vs V M R
  obtain ⟨v, rfl, rv⟩ : ∃ v, vs = #[v] ∧ Rel h φ w S true (.rsl es) v := by
    have hl := R.1
    match vs, hl with
    | ⟨[v]⟩, _ => exact ⟨v, rfl, R.2 0 _ v rfl rfl⟩
  obtain ⟨A, cap, vals, rfl, hcap, Vv, hcell, hne⟩ := row_vals rv hsz hs
  refine .inl ⟨run_callFunc hf hb hn _ w, ?_⟩
  have rel0 : ∀ (A : Option Addr) (c : Nat) φ w S, Rel h φ w S true (.rsl []) (.slice A 0 c) := fun A c φ w S =>
    .rsl true [] A c 1 (fun _ _ => undef) (by simp) (by omega) (by simp) (fun i j x y hx => by simp at hx) (fun i j x y hx => by simp at hx)
  by_cases he : es = []
  · subst he
    rw [if_pos rfl] at k
    cases A with
    | none =>
      have := AnyE.slices_Clone_nil L 0 cap w
      rw [hg] at this
      refine this.mono ?_
      rintro e w' ⟨rfl, rfl⟩
      exact ⟨_, h, φ, S, k, M, Ext.refl _ _ _ _, rel0 _ _ _ _ _⟩
    | some ad =>
      have := clone_empty L i0 z sz bytes hi hz0 hz1 hz2 hzs hsz z23 ad cap w
      rw [hg] at this
      refine this.mono ?_
      rintro e w' ⟨v', rfl, ⟨_, how⟩, B⟩
      refine ⟨_, h, φ, S, k, sim_below M B, ext_below M B, ?_⟩
      rcases how with ⟨rfl, _⟩ | ⟨g', cp, cur, rfl, _⟩
      · exact rel0 _ _ _ _ _
      · exact rel0 _ _ _ _ _
  · rw [if_neg he] at k
    obtain ⟨ad, rfl⟩ := hne he
    have hpos : 0 < es.length := List.length_pos_iff.2 he
    have hvl : 0 < vals.length := by rw [Vv.1]; exact Nat.mul_pos hpos hsz
    have h0 := hcell ad rfl 0 _ (List.getElem?_eq_getElem hvl)
    have hsp := World.cell?_spot h0.1
    obtain ⟨b, o, s⟩ := ad
    have hs0 : s = none := by
      unfold Addr.add at hsp
      cases s with
      | none => rfl
      | some s => simp at hsp
    subst hs0
    have := AnyE.slices_Clone L i0 z sz bytes hi hz0 hz1 hz2 hzs hsz z23 b o es.length cap vals w Vv.1 hm hbig (fun j u e => by
      have := (hcell _ rfl j u e).1
      rw [Addr.add_lit] at this
      exact this) Vv.2.1
    rw [hg] at this
    refine this.mono ?_
    rintro e w' ⟨v', rfl, ⟨_, how⟩, _, B⟩
    rcases how with ⟨_, h0⟩ | ⟨g', cp, cur, rfl, q1, q2, q3, q4, q5, q6⟩
    · omega
    · have M' := sim_below M B
      have E' := ext_below M B
      have Vv' := Vv.mono E'
      obtain ⟨x1, x2, x3⟩ := box_in (zs := cellsL es) M' q2 (by rw [cellsL_len hs, q5]; exact Nat.mul_le_mul_right _ q3)
        (fun j y hy => by
          obtain ⟨i, k, x, h1, h2, _⟩ := cellsL_get hs j y hy
          obtain ⟨_, _, _, h3⟩ := Vv.2.2 i k x y h1 h2
          exact h3)
        (fun j y u hy hu => by
          obtain ⟨i, k, x, h1, h2, rfl⟩ := cellsL_get hs j y hy
          obtain ⟨u', h3, h4, _⟩ := Vv'.2.2 i k x y h1 h2
          have hlt : i * sz + k < es.length * sz := by rw [← Vv.1]; exact (List.getElem?_eq_some_iff.1 h3).1
          have : cur.toList[i * sz + k]? = some u' := by
            rw [← q6, List.getElem?_take, if_pos hlt] at h3
            exact h3
          rw [Array.getElem?_toList, hu] at this
          injection this with this
          rw [this]
          exact h4.up)
        (fun j hj => by have := M.stab _ _ hj; omega)
        (fun i o ho hd => by have := (M.obj i o ho).lt hd; omega)
      refine ⟨_, _, _, S, k, x1, x3 q1 E', ?_⟩
      have := Rel.msl (h := h ++ [.box (cellsL es)]) (φ := updφ φ h.length ⟨g', 0⟩) (w := w') (S := S) h.length 0 es.length es.length cp ⟨.box (cellsL es), by simp, rfl⟩ q3
      simpa using this
/-- slices.Clone of a read-only row, if nobody writes into what comes back. -/
theorem WC_cloneR {P : Pg} {ρ : Ren} (L : SlLaysE0.n41 P.prog ρ) {g : FuncId} (hg : ρ.f 41 = g) {fn : Func} {c : Code} (hf : P.prog.funcs[g]? = some fn) (hb : fn.body = some c) (hn : (fn.name == "runtime.NumGoroutine") = false)
    {i0 : TypeInfo} {z : Value} {sz bytes : Nat} (hi : P.prog.info? (ρ.t 23) = some i0) (hz0 : i0.zero = some z) (hz1 : i0.size = sz) (hz2 : i0.bytes = bytes) (hzs : z.cells.size = sz) (hsz : 0 < sz) (z23 : ∀ w, (Go.sizeOf (ρ.t 23)).run P.prog w = .ok sz w)
    {es : List AV} (hs : ∀ x ∈ es, x.cells.length = sz) (hm : es.length ≤ maxLen) (hbig : es.length * bytes ≤ 140737488355328) {h : List AO} {K : ARes → List AO → Prop}
    (k : K (.ok (.rsl es)) h) : WC P g [.rsl es] h K := by
  intro φ w S vs V M R
  obtain ⟨v, rfl, rv⟩ : ∃ v, vs = #[v] ∧ Rel h φ w S true (.rsl es) v := by
    have hl := R.1
    match vs, hl with
    | ⟨[v]⟩, _ => exact ⟨v, rfl, R.2 0 _ v rfl rfl⟩
  obtain ⟨A, cap, vals, rfl, hcap, Vv, hcell, hne⟩ := row_vals rv hsz hs
  refine .inl ⟨run_callFunc hf hb hn _ w, ?_⟩
  have rel0 : ∀ (A : Option Addr) (c : Nat) φ w S, Rel h φ w S true (.rsl []) (.slice A 0 c) := fun A c φ w S =>
    .rsl true [] A c 1 (fun _ _ => undef) (by simp) (by omega) (by simp) (fun i j x y hx => by simp at hx) (fun i j x y hx => by simp at hx)
  by_cases he : es = []
  · subst he
    cases A with
    | none =>
      have := AnyE.slices_Clone_nil L 0 cap w
      rw [hg] at this
      refine this.mono ?_
      rintro e w' ⟨rfl, rfl⟩
      exact ⟨_, h, φ, S, k, M, Ext.refl _ _ _ _, rel0 _ _ _ _ _⟩
    | some ad =>
      have := clone_empty L i0 z sz bytes hi hz0 hz1 hz2 hzs hsz z23 ad cap w
      rw [hg] at this
      refine this.mono ?_
      rintro e w' ⟨v', rfl, ⟨_, how⟩, B⟩
      refine ⟨_, h, φ, S, k, sim_below M B, ext_below M B, ?_⟩
      rcases how with ⟨rfl, _⟩ | ⟨g', cp, cur, rfl, _⟩
      · exact rel0 _ _ _ _ _
      · exact rel0 _ _ _ _ _
  · obtain ⟨ad, rfl⟩ := hne he
    have hpos : 0 < es.length := List.length_pos_iff.2 he
    have hvl : 0 < vals.length := by rw [Vv.1]; exact Nat.mul_pos hpos hsz
    have h0 := hcell ad rfl 0 _ (List.getElem?_eq_getElem hvl)
    have hsp := World.cell?_spot h0.1
    obtain ⟨b, o, s⟩ := ad
    have hs0 : s = none := by
      unfold Addr.add at hsp
      cases s with
      | none => rfl
      | some s => simp at hsp
    subst hs0
    have := AnyE.slices_Clone L i0 z sz bytes hi hz0 hz1 hz2 hzs hsz z23 b o es.length cap vals w Vv.1 hm hbig (fun j u e => by
      have := (hcell _ rfl j u e).1
      rw [Addr.add_lit] at this
      exact this) Vv.2.1
    rw [hg] at this
    refine this.mono ?_
    rintro e w' ⟨v', rfl, ⟨_, how⟩, _, B⟩
    rcases how with ⟨_, h0⟩ | ⟨g', cp, cur, rfl, q1, q2, q3, q4, q5, q6⟩
    · omega
    · have M' := sim_below M B
      have E' := ext_below M B
      have Vv' := Vv.mono E'
      have hg' : g' < w'.heap.size := (Array.getElem?_eq_some_iff.1 q2).1
      have R2 : RExt h φ w' S h φ w' (withBlk S g') := ⟨Nat.le_refl _, fun _ _ x => .inl x, fun _ _ _ => rfl, fun i hi => ⟨hi, rfl⟩, fun i e sz n hi _ => .inl ⟨hi, rfl⟩⟩
      have E2 : Ext h φ w S h φ w' (withBlk S g') :=
        { len := E'.len, stab := fun _ _ x => .inl x, cell := E'.cell, same := E'.same, tok := E'.tok, live := E'.live, frame := E'.frame, os := E'.os, tape := E'.tape, output := E'.output, size := E'.size,
          news := fun b o k => by
            rcases k with k | rfl
            · exact .inl k
            · exact .inr (.inl q1) }
      have M2 : Sim h φ w' (withBlk S g') := by
        refine ⟨fun i o ho => ?_, M'.inj, fun b o k => ?_⟩
        · cases hd : o.isDead with
          | true => cases o <;> simp [AO.isDead] at hd; trivial
          | false =>
            have hlt := (M.obj i o ho).lt hd
            refine (M'.obj i o ho).rmono R2 rfl (fun j hj => ?_)
            rcases hj with hj | hj
            · exact hj
            · omega
        · rcases k with k | rfl
          · exact M'.stab b o k
          · exact hg'
      refine ⟨_, h, φ, _, k, M2, E2, row_rel (Vv.mono E2) hsz hs q3 q2 q6 (fun j _ => .inr rfl) true⟩
/-- The same, in closed runs. -/
def cloneX (sz bytes : Nat) (es : List AV) (h : List AO) : Option (AV × List AO) :=
  if es.all (fun x => x.cells.length == sz) ∧ es.length ≤ maxLen ∧ es.length * bytes ≤ 140737488355328 then
    match es with
    | [] => some (.rsl [], h)
    | _ => some (.msl h.length 0 es.length es.length, h ++ [.box (cellsL es)])
  else none
end Go.Eng
