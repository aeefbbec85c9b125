/- The engine, part 12: plain operations: cuts, made rows, iterators; all plain operations. -/
import Derived.Test.YtjljhmeadfejhaaE11
set_option linter.unusedVariables false
set_option linter.unusedSimpArgs false
namespace Go.Eng
section
variable {P : Program} {o : Oper} {a : Act} {h : List AO} {φ : Nat → Loc} {w : World} {S : Nat → Nat → Prop} {f : Fr} {x : AV} {h' : List AO}

theorem bnd1_run (F : FRel h φ w S f a) {q : Option Operand} {b : Option Opnd} (e : cOpt q = some b) {d n : Int} (he : bnd1 f d b = some n) :
    (q.map a.eval = none ∧ n = d) ∨ ∃ k, q.map a.eval = some (.int k n) := by
  cases q with
  | none =>
    injection e with e
    subst e
    injection he with he
    exact .inl ⟨rfl, he.symm⟩
  | some y =>
    obtain ⟨p, hp, rfl⟩ := Option.map_eq_some_iff.1 e
    simp only [bnd1] at he
    split at he
    · rename_i k m hx
      injection he with he
      subst he
      have r := rel_ev F hp
      rw [hx] at r
      exact .inr ⟨k, by rw [Option.map_some, rel_int_inv r]⟩
    · cases he

theorem run_bounds (isSlice : Bool) (len cap : Nat) (hc : len ≤ cap) {lo hi : Option Value} {l u : Int} (hhi : (hi = none ∧ u = len) ∨ ∃ k, hi = some (.int k u)) (hlo : (lo = none ∧ l = 0) ∨ ∃ k, lo = some (.int k l)) (h1 : 0 ≤ l) (h2 : l ≤ u) (h3 : u ≤ len) (w : World) :
    (Instr.sliceBounds isSlice len cap lo hi none).run P w = .ok (l.toNat, u.toNat, cap) w := by
  have hu : 0 ≤ u ∧ u ≤ (cap : Int) := by omega
  have hl : 0 ≤ l ∧ l ≤ (u.toNat : Int) := by omega
  rcases hhi with ⟨rfl, rfl⟩ | ⟨k, rfl⟩ <;> rcases hlo with ⟨rfl, rfl⟩ | ⟨k', rfl⟩ <;>
    simp [Instr.sliceBounds, Instr.sliceBound, asIntOf, hu, hl] <;> omega

theorem fine_slcS (M : Sim h φ w S) (F : FRel h φ w S f a) {t : TypeId} {y : Operand} {lo hi : Option Operand} {p : Opnd} {plo phi : Option Opnd} (ho : o.op = .slice t y lo hi none) (hu : P.underlying t = some .string) (e1 : cO y = some p) (e2 : cOpt lo = some plo) (e3 : cOpt hi = some phi)
    (he : evP f h (.slcS p plo phi) = some (x, h')) : Fine P o a h φ w S x h' := by
  have r := rel_ev F e1
  simp only [evP] at he
  split at he
  case h_2 => cases he
  rename_i s hx
  rw [hx] at r
  have u1 := rel_str_inv r
  split at he
  case h_2 => cases he
  rename_i b1 b2 ub lb hb1 hb2
  split at he
  case isFalse => cases he
  rename_i hc
  injection he with he; injection he with h1 h2; subst h1 h2
  have hrun := run_bounds (P := P) false s.size s.size (Nat.le_refl _) (lo := lo.map a.eval) (hi := hi.map a.eval) (l := lb) (u := ub) (bnd1_run F e3 hb1) (bnd1_run F e2 hb2) hc.1 hc.2.1 hc.2.2 w
  exact fine_pure M (v := .string (s.extract lb.toNat ub.toNat)) (by simp [execOp, ho, Instr.sliceAt, run_underlying hu, Instr.slice, u1, hrun]) (.str _ _)

theorem fine_slcL (M : Sim h φ w S) (F : FRel h φ w S f a) {t e : TypeId} {sz : Nat} {y : Operand} {lo hi : Option Operand} {p : Opnd} {plo phi : Option Opnd} (ho : o.op = .slice t y lo hi none) (hu : P.underlying t = some (.slice e)) (es : szOf P e = some sz) (e1 : cO y = some p) (e2 : cOpt lo = some plo) (e3 : cOpt hi = some phi)
    (he : evP f h (.slcL sz p plo phi) = some (x, h')) : Fine P o a h φ w S x h' := by
  have r := rel_ev F e1
  obtain ⟨ti, hti, hsz⟩ := szOf_inv es
  simp only [evP] at he
  split at he
  case h_2 => cases he
  rename_i xs hx
  obtain ⟨A, c, hv, hl, rr⟩ := rel_elems hx r
  split at he
  case h_2 => cases he
  rename_i b1 b2 ub lb hb1 hb2
  split at he
  case isFalse => cases he
  rename_i hc
  obtain ⟨c1, c2, c3, hall⟩ := hc
  injection he with he; injection he with h1 h2; subst h1 h2
  have hrun := run_bounds (P := P) true xs.length c hl (lo := lo.map a.eval) (hi := hi.map a.eval) (l := lb) (u := ub) (bnd1_run F e3 hb1) (bnd1_run F e2 hb2) c1 c2 c3 w
  refine fine_pure M (v := .slice (if c = lb.toNat then A else A.map (·.add (lb.toNat * sz))) (ub.toNat - lb.toNat) (c - lb.toNat)) (by simp [execOp, ho, Instr.sliceAt, run_underlying hu, Instr.slice, hv, hrun, Go.sizeOf, typeInfo, hti, hsz]) ?_
  rw [hv] at rr
  have hlen : ((xs.take ub.toNat).drop lb.toNat).length = ub.toNat - lb.toNat := by simp; omega
  rw [← hlen]
  cases rr with
  | rsl _ _ _ _ sz' g _ hz hs hcc hr =>
    have hmem : ∀ (i : Nat) (z : AV), ((xs.take ub.toNat).drop lb.toNat)[i]? = some z → xs[lb.toNat + i]? = some z := by
      intro i z hz
      rw [List.getElem?_drop, List.getElem?_take] at hz
      split at hz
      · exact hz
      · cases hz
    refine .rsl _ _ _ _ sz' (fun i j => g (lb.toNat + i) j) (by omega) hz (fun z hz' => ?_) (fun i j z q hz' hq => ?_) (fun i j z q hz' hq => hr _ j z q (hmem i z hz') hq)
    · obtain ⟨i, hi'⟩ := List.getElem?_of_mem hz'
      exact hs z (List.mem_of_getElem? (hmem i z hi'))
    · have hm := hmem i z hz'
      obtain ⟨ad, rfl, k1, k2, k3⟩ := hcc _ j z q hm hq
      have hsz' : sz' = sz := by
        rw [← hs z (List.mem_of_getElem? hm)]
        have := List.all_eq_true.1 hall z (List.mem_of_getElem? hm)
        simpa using this
      subst hsz'
      have hlt : lb.toNat + i < xs.length := (List.getElem?_eq_some_iff.1 hm).1
      rw [if_neg (by omega)]
      refine ⟨_, rfl, k1, ?_, ?_⟩
      · rw [add_add, show lb.toNat * sz' + (i * sz' + j) = (lb.toNat + i) * sz' + j by rw [Nat.add_mul]; omega]
        exact k2
      · rw [add_block, add_off, show ad.off + lb.toNat * sz' + (i * sz' + j) = ad.off + ((lb.toNat + i) * sz' + j) by rw [Nat.add_mul]; omega]
        exact k3

theorem fine_rng (M : Sim h φ w S) (F : FRel h φ w S f a) {t : TypeId} {y : Operand} {p : Opnd} (ho : o.op = .range t y) (hu : P.underlying t = some .string) (e1 : cO y = some p) (he : evP f h (.rng p) = some (x, h')) : Fine P o a h φ w S x h' := by
  have r := rel_ev F e1
  simp only [evP] at he
  split at he
  case h_2 => cases he
  rename_i s hx
  rw [hx] at r
  have u1 := rel_str_inv r
  injection he with he; injection he with h1 h2; subst h1 h2
  have st := push_step M (.siter s 0) (.stringIter s 0) 0 S (fun _ _ k => k) (fun _ _ k => .inl k)
  have E := st.ext M (by simp)
  refine ⟨.pointer (some ⟨w.heap.size, 0, none⟩), w.alloc (.stringIter s 0), _, _, .inl ?_, st.sim M (by simp) ⟨?_, fun j hj => ?_⟩, E, ?_⟩
  · simp [execOp, ho, Instr.range, run_underlying hu, u1]
  · simp only [updφ_same]; show (w.heap.push _)[w.heap.size]? = _; simp
  · simp only [updφ_same] at hj
    exact absurd (M.stab _ _ hj) (Nat.lt_irrefl _)
  · have := Rel.ptr (h := h ++ [.siter s 0]) (φ := updφ φ h.length ⟨w.heap.size, 0⟩) (w := w.alloc (.stringIter s 0)) (S := S) h.length 0 ⟨.siter s 0, by simp, rfl⟩
    simpa using this

theorem rel_tup3 {x y z : AV} {u v q : Value} (r1 : Rel h φ w S true x u) (r2 : Rel h φ w S true y v) (r3 : Rel h φ w S true z q) : Rel h φ w S true (.tup [x, y, z]) (.tuple #[u, v, q]) := by
  refine .tup _ _ _ rfl (fun j c d hc hd => ?_)
  match j with
  | 0 => simp at hc hd; subst hc hd; exact r1
  | 1 => simp at hc hd; subst hc hd; exact r2
  | 2 => simp at hc hd; subst hc hd; exact r3
  | j + 3 => simp at hc

theorem fine_nxt (M : Sim h φ w S) (F : FRel h φ w S f a) {y : Operand} {p : Opnd} (ho : o.op = .next y true) (e1 : cO y = some p) (he : evP f h (.nxt p) = some (x, h')) : Fine P o a h φ w S x h' := by
  have r := rel_ev F e1
  simp only [evP] at he
  split at he
  case h_2 => cases he
  rename_i i hx
  rw [hx] at r
  split at he
  case h_2 => cases he
  rename_i s pos hit
  generalize hv : a.eval y = v at r
  cases r with
  | ptr _ _ hi =>
    obtain ⟨k1, k2⟩ := M.obj i _ hit
    have hg : (getObj (φ i).blk).run P w = .ok (.stringIter s pos) w := by simp [getObj, Sem.run, k1]
    split at he
    · rename_i hlt
      injection he with he; injection he with h1 h2; subst h1 h2
      have hset : (setObj (φ i).blk (.stringIter s (pos + (Utf8.decode s pos).2))).run P w = .ok () { w with heap := w.heap.setIfInBounds (φ i).blk (.stringIter s (pos + (Utf8.decode s pos).2)) } := by simp [setObj, Sem.run, k1]
      have st := turn_step M (o' := .siter s (pos + (Utf8.decode s pos).2)) hit rfl rfl rfl k2 (w' := { w with heap := w.heap.setIfInBounds (φ i).blk (.stringIter s (pos + (Utf8.decode s pos).2)) })
        (fun b hb' => by simp only [Array.getElem?_setIfInBounds]; rw [if_neg (fun e => hb' e.symm)]) (by simp) rfl rfl rfl
      have E := st.ext M (by simp)
      refine ⟨_, _, _, _, .inl ?_, st.sim M (by simp) ⟨?_, k2⟩, E, rel_tup3 (.bool _ _) (.int _ _ _) (.int _ _ _)⟩
      · simp [execOp, ho, Instr.next, hv, hg, hlt, hset, goInt]
      · have hlt := (Array.getElem?_eq_some_iff.1 k1).1
        simp [Array.getElem?_setIfInBounds, hlt]
    · rename_i hlt
      injection he with he; injection he with h1 h2; subst h1 h2
      refine fine_pure M (v := .tuple #[.bool false]) (by simp [execOp, ho, Instr.next, hv, hg, hlt]) (.tup _ _ _ rfl (fun j c d hc hd => ?_))
      match j with
      | 0 => simp at hc hd; subst hc hd; exact .bool _ _
      | j + 1 => simp at hc
end
end Go.Eng
