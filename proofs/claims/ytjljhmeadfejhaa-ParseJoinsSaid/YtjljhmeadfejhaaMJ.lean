/- YtjljhmeadfejhaaMJ: texts of this claim, merged. -/
import Derived.Test.YtjljhmeadfejhaaP1
import Derived.Test.YtjljhmeadfejhaaC8
import Derived.Test.YtjljhmeadfejhaaE33
/- The parser's small functions, about the engine. -/
set_option maxRecDepth 100000
set_option linter.unusedVariables false
set_option linter.unusedSimpArgs false
namespace Go.Proofs.Ytjljhmeadfejhaa
open Go.Eng
structure Tok where
  kind : Int
  text : ByteArray
  num : Int
  at_ : Int
  deriving Inhabited
def Tok.av (t : Tok) : AV := .agg [.int .i64 t.kind, .str t.text, .int .i64 t.num, .int .i64 t.at_]
/-- Where the parser is, and what is wrong first. -/
structure PS where
  pos : Nat
  err : Int
  eat : Int
abbrev pC (l : List Tok) (s : PS) : List AV := [.rsl (l.map Tok.av), .int .i64 (s.pos : Int), .int .i64 s.err, .int .i64 s.eat]
abbrev pB (l : List Tok) (s : PS) : AO := .box (pC l s)
def nowP (l : List Tok) (s : PS) : Tok := l[s.pos]?.getD default
def failP (l : List Tok) (e : Int) (s : PS) : PS := if s.err = 0 then ⟨s.pos, e, (nowP l s).at_⟩ else s
def mayP (l : List Tok) (w : ByteArray) (s : PS) : Bool × PS := if s.err = 0 ∧ (nowP l s).text = w ∧ ¬ w = ⟨#[]⟩ then (true, ⟨s.pos + 1, s.err, s.eat⟩) else (false, s)
def needP (l : List Tok) (w : ByteArray) (s : PS) : PS := if (mayP l w s).1 = true then (mayP l w s).2 else failP l 5 (mayP l w s).2
theorem drop_set {H : List AO} {pi : Nat} {b : AO} (hb : b.bel H.length = true) (X : List AO) : DropOk H (H.set pi b ++ X) H.length := by
  refine ⟨Nat.le_refl _, fun i o hi ho => ?_⟩
  rw [List.getElem?_append_left (by simpa using hi)] at ho
  by_cases e : pi = i
  · subst e
    rw [List.getElem?_set_self hi] at ho
    injection ho with ho
    subst ho
    exact .inr hb
  · rw [List.getElem?_set_ne e] at ho
    exact .inl ho
theorem pB_bel (l : List Tok) (s : PS) (n : Nat) : (pB l s).bel n = true := by simp [AO.bel, belL, AV.bel]
section
variable {H : List AO} {pi : Nat} {l : List Tok} {s : PS} {K : ARes → List AO → Prop}
theorem set_same (hp : H[pi]? = some (pB l s)) : H.set pi (pB l s) = H := by
  apply List.ext_getElem?
  intro i
  by_cases e : pi = i
  · subst e; rw [List.getElem?_set_self (List.getElem?_eq_some_iff.1 hp).1, hp]
  · rw [List.getElem?_set_ne e]
theorem w49 (hp : H[pi]? = some (pB l s)) (k : K (.ok (.bool (decide (s.err = 0)))) H) : W 49 [.ptr pi 0] H K := by
  refine W_of mixed c49 (by simp [A49]) ?_
  simp [A49, hp]
  exact .inl k
theorem w50 (hp : H[pi]? = some (pB l s)) (hpos : s.pos < l.length) (k : K (.ok (nowP l s).av) H) : W 50 [.ptr pi 0] H K := by
  have ap : ∀ X : List AO, (H ++ X)[pi]? = some (pB l s) := fun X => by rw [List.getElem?_append_left (List.getElem?_eq_some_iff.1 hp).1]; exact hp
  have e : nowP l s = l[s.pos] := by simp [nowP, hpos]
  rw [e] at k
  refine W_of mixed c50 (by simp [A50]) ?_
  simp [A50, ap, hpos, Tok.av]
  exact .inr ⟨H.length, 3, _, DropOk.app H _, by simp [out, mapO]; rfl, by rw [List.take_left]; exact k⟩
theorem w51 {e : Int} (hp : H[pi]? = some (pB l s)) (hpos : s.pos < l.length) (k : K (.ok (.tup [])) (H.set pi (pB l (failP l e s)))) : W 51 [.ptr pi 0, .int .i64 e] H K := by
  refine W_of mixed c51 (by simp [A51]) ?_
  simp [A51]
  refine w49 hp ?_
  by_cases h0 : s.err = 0
  · simp [h0]
    refine w50 hp hpos ?_
    simp [Tok.av, fillA, setL, hp]
    simp [failP, h0] at k
    exact .inl k
  · simp [h0]
    simp [failP, h0] at k
    rw [set_same hp] at k
    exact .inl k
theorem w74 {w : ByteArray} (hp : H[pi]? = some (pB l s)) (hpos : s.pos < l.length) (hlen : l.length < 1000000) (k : K (.ok (.bool (mayP l w s).1)) (H.set pi (pB l (mayP l w s).2))) : W 74 [.ptr pi 0, .str w] H K := by
  have hw := wrap_succ (i := s.pos) (by omega)
  refine W_of mixed c74 (by simp [A74]) ?_
  simp [A74]
  refine w49 hp ?_
  unfold mayP at k
  by_cases h0 : s.err = 0
  · simp [h0]
    refine w50 hp hpos ?_
    by_cases h1 : (nowP l s).text = w
    · by_cases h2 : w = ⟨#[]⟩
      · simp [h0, h1, h2] at k
        rw [set_same hp] at k
        simp [Tok.av, h1, h2]
        exact .inl k
      · rw [if_pos ⟨h0, h1, h2⟩] at k
        simp [Tok.av, h1, h2, hp, hw]
        simp at k
        exact .inl k
    · rw [if_neg (fun e => h1 e.2.1)] at k
      rw [set_same hp] at k
      simp [Tok.av, h1]
      exact .inl k
  · rw [if_neg (fun e => h0 e.1)] at k
    rw [set_same hp] at k
    simp [h0]
    exact .inl k
end
end Go.Proofs.Ytjljhmeadfejhaa

/- The parser's small functions, about the engine: what must stand there. -/
set_option maxRecDepth 100000
set_option linter.unusedVariables false
set_option linter.unusedSimpArgs false
namespace Go.Proofs.Ytjljhmeadfejhaa
open Go.Eng
/-- Tokens as the lexer gives them. -/
structure TL (l : List Tok) : Prop where
  len : l.length < 1000000
  last : ∀ i t, l[i]? = some t → i + 1 = l.length → t.kind = 4 ∧ t.text = ⟨#[]⟩
  small : ∀ t ∈ l, t.text.size ≤ 100000
theorem now_eq {l : List Tok} {s : PS} (hpos : s.pos < l.length) : nowP l s = l[s.pos] := by simp [nowP, hpos]
theorem TL.more {l : List Tok} (T : TL l) {s : PS} (hpos : s.pos < l.length) (h : ¬ (nowP l s).kind = 4 ∨ ¬ (nowP l s).text = ⟨#[]⟩) : s.pos + 1 < l.length := by
  by_cases e : s.pos + 1 = l.length
  · have := T.last s.pos l[s.pos] (List.getElem?_eq_getElem hpos) e
    rw [now_eq hpos] at h
    rcases h with h | h
    · exact absurd this.1 h
    · exact absurd this.2 h
  · omega
theorem fail_pos (l : List Tok) (e : Int) (s : PS) : (failP l e s).pos = s.pos := by unfold failP; split <;> rfl
theorem may_pos {l : List Tok} (T : TL l) {w : ByteArray} {s : PS} (hpos : s.pos < l.length) : (mayP l w s).2.pos < l.length := by
  unfold mayP
  split
  · rename_i h
    exact T.more hpos (.inr fun e => h.2.2 (h.2.1.symm.trans e))
  · exact hpos
theorem need_pos {l : List Tok} (T : TL l) {w : ByteArray} {s : PS} (hpos : s.pos < l.length) : (needP l w s).pos < l.length := by
  unfold needP
  split
  · exact may_pos T hpos
  · rw [fail_pos]; exact may_pos T hpos
def numP (l : List Tok) (s : PS) : Int × PS :=
  if (nowP l s).kind = 2 then (if s.err = 0 then ((nowP l s).num, ⟨s.pos + 1, s.err, s.eat⟩) else (0, s)) else (0, failP l 5 s)
def nameP (l : List Tok) (s : PS) : ByteArray × PS :=
  if (nowP l s).kind = 1 ∧ wordM (nowP l s).text = false then (if s.err = 0 then ((nowP l s).text, ⟨s.pos + 1, s.err, s.eat⟩) else (⟨#[]⟩, s)) else (⟨#[]⟩, failP l 5 s)
theorem num_pos {l : List Tok} (T : TL l) {s : PS} (hpos : s.pos < l.length) : (numP l s).2.pos < l.length := by
  unfold numP
  split
  · rename_i h
    split
    · exact T.more hpos (.inl (by omega))
    · exact hpos
  · rw [fail_pos]; exact hpos
theorem name_pos {l : List Tok} (T : TL l) {s : PS} (hpos : s.pos < l.length) : (nameP l s).2.pos < l.length := by
  unfold nameP
  split
  · rename_i h
    split
    · exact T.more hpos (.inl (by omega))
    · exact hpos
  · rw [fail_pos]; exact hpos
theorem fail_err {l : List Tok} {e : Int} (he : ¬ e = 0) (s : PS) : ¬ (failP l e s).err = 0 := by
  unfold failP
  split
  · exact he
  · assumption
section
variable {H : List AO} {pi : Nat} {l : List Tok} {s : PS} {K : ARes → List AO → Prop}
theorem get_set (hp : H[pi]? = some (pB l s)) (c : AO) : (H.set pi c)[pi]? = some c := by
  rw [List.getElem?_set_self (List.getElem?_eq_some_iff.1 hp).1]
theorem w72 {w : ByteArray} (T : TL l) (hp : H[pi]? = some (pB l s)) (hpos : s.pos < l.length) (k : K (.ok (.tup [])) (H.set pi (pB l (needP l w s)))) : W 72 [.ptr pi 0, .str w] H K := by
  refine W_of mixed c72 (by simp [A72]) ?_
  simp [A72]
  refine w74 hp hpos T.len ?_
  unfold needP at k
  cases hm : (mayP l w s).1 with
  | true =>
    rw [if_pos hm] at k
    simp
    exact .inl k
  | false =>
    rw [if_neg (by rw [hm]; decide)] at k
    simp
    refine w51 (get_set hp _) (may_pos T hpos) ?_
    simp
    exact .inl k
theorem app_get (hp : H[pi]? = some (pB l s)) (X : List AO) : (H ++ X)[pi]? = some (pB l s) := by
  rw [List.getElem?_append_left (List.getElem?_eq_some_iff.1 hp).1]; exact hp
theorem app_set (hp : H[pi]? = some (pB l s)) (X : List AO) (c : AO) : (H ++ X).set pi c = H.set pi c ++ X := by
  rw [List.set_append_left _ _ (List.getElem?_eq_some_iff.1 hp).1]
theorem ret_set {b : AO} {X : List AO} {x : AV} (hb : b.bel H.length = true) (hx : out H.length (H.set pi b ++ X) 3 x = some x) (k : K (.ok x) (H.set pi b)) : retK H K x (H.set pi b ++ X) :=
  .inr ⟨H.length, 3, x, drop_set hb X, hx, by rw [List.take_left' (by simp)]; exact k⟩
theorem ret_pureJ {X : List AO} {x : AV} (hx : out H.length (H ++ X) 3 x = some x) (k : K (.ok x) H) : retK H K x (H ++ X) :=
  .inr ⟨H.length, 3, x, DropOk.app H X, hx, by rw [List.take_left]; exact k⟩
theorem w70 (T : TL l) (hp : H[pi]? = some (pB l s)) (hpos : s.pos < l.length) (k : K (.ok (.int .i64 (numP l s).1)) (H.set pi (pB l (numP l s).2))) : W 70 [.ptr pi 0] H K := by
  have hw := wrap_succ (i := s.pos) (by have := T.len; omega)
  refine W_of mixed c70 (by simp [A70]) ?_
  simp [A70]
  refine w50 hp hpos ?_
  simp [Tok.av]
  unfold numP at k
  by_cases h2 : (nowP l s).kind = 2
  · rw [if_pos h2] at k
    simp [h2]
    refine w49 (app_get hp _) ?_
    by_cases h0 : s.err = 0
    · rw [if_pos h0] at k
      simp [h0, app_get hp, app_set hp, hw]
      exact ret_set (pB_bel l ⟨s.pos + 1, s.err, s.eat⟩ _) (by simp) (by simp [h0] at k; exact k)
    · rw [if_neg h0] at k
      rw [set_same hp] at k
      simp [h0]
      exact ret_pureJ (by simp) k
  · rw [if_neg h2] at k
    simp [h2]
    refine w51 (app_get hp _) hpos ?_
    simp [app_set hp]
    refine w49 (app_get (get_set hp _) _) ?_
    simp [fail_err]
    exact ret_set (pB_bel l _ _) (by simp) k
theorem w71 (T : TL l) (hp : H[pi]? = some (pB l s)) (hpos : s.pos < l.length) (k : K (.ok (.str (nameP l s).1)) (H.set pi (pB l (nameP l s).2))) : W 71 [.ptr pi 0] H K := by
  have hw := wrap_succ (i := s.pos) (by have := T.len; omega)
  have hsm : (nowP l s).text.size ≤ 1152921504606846976 := by rw [now_eq hpos]; exact Nat.le_trans (T.small _ (List.getElem_mem hpos)) (by decide)
  refine W_of mixed c71 (by simp [A71]) ?_
  simp [A71]
  refine w50 hp hpos ?_
  simp [Tok.av]
  unfold nameP at k
  by_cases h1 : (nowP l s).kind = 1
  · simp [h1]
    refine w28 hsm ?_
    cases hwd : wordM (nowP l s).text with
    | false =>
      rw [if_pos ⟨h1, hwd⟩] at k
      simp
      refine w49 (app_get hp _) ?_
      by_cases h0 : s.err = 0
      · rw [if_pos h0] at k
        simp [h0, app_get hp, app_set hp, hw]
        exact ret_set (pB_bel l ⟨s.pos + 1, s.err, s.eat⟩ _) (by simp) (by simp [h0] at k; exact k)
      · rw [if_neg h0] at k
        rw [set_same hp] at k
        simp [h0]
        exact ret_pureJ (by simp) k
    | true =>
      rw [if_neg (by rw [hwd]; simp)] at k
      simp
      refine w51 (app_get hp _) hpos ?_
      simp [app_set hp]
      refine w49 (app_get (get_set hp _) _) ?_
      simp [fail_err]
      exact ret_set (pB_bel l _ _) (by simp) k
  · rw [if_neg (fun e => h1 e.1)] at k
    simp [h1]
    refine w51 (app_get hp _) hpos ?_
    simp [app_set hp]
    refine w49 (app_get (get_set hp _) _) ?_
    simp [fail_err]
    exact ret_set (pB_bel l _ _) (by simp) k
def plainM (w : ByteArray) : Int := if w = ⟨#[98, 111, 111, 108]⟩ then 1 else if w = ⟨#[105, 110, 116]⟩ then 2 else if w = ⟨#[117, 105, 110, 116]⟩ then 3 else if w = ⟨#[116, 101, 120, 116]⟩ then 4 else if w = ⟨#[98, 121, 116, 101, 115]⟩ then 5 else 0
theorem w113 {w : ByteArray} (k : K (.ok (.int .i64 (plainM w))) H) : W 113 [.str w] H K := by
  refine W_of mixed c113 (by simp [A113]) ?_
  unfold plainM at k
  by_cases h1 : w = ⟨#[98, 111, 111, 108]⟩
  · rw [if_pos h1] at k; simp [A113, h1]; exact .inl k
  rw [if_neg h1] at k
  by_cases h2 : w = ⟨#[105, 110, 116]⟩
  · rw [if_pos h2] at k; simp [A113, h2]; exact .inl k
  rw [if_neg h2] at k
  by_cases h3 : w = ⟨#[117, 105, 110, 116]⟩
  · rw [if_pos h3] at k; simp [A113, h3]; exact .inl k
  rw [if_neg h3] at k
  by_cases h4 : w = ⟨#[116, 101, 120, 116]⟩
  · rw [if_pos h4] at k; simp [A113, h4]; exact .inl k
  rw [if_neg h4] at k
  by_cases h5 : w = ⟨#[98, 121, 116, 101, 115]⟩
  · rw [if_pos h5] at k; simp [A113, h5]; exact .inl k
  rw [if_neg h5] at k
  simp [A113, h1, h2, h3, h4, h5]; exact .inl k
end
end Go.Proofs.Ytjljhmeadfejhaa

/- The parser's types, about the engine. -/
set_option maxRecDepth 100000
set_option linter.unusedVariables false
set_option linter.unusedSimpArgs false
namespace Go.Proofs.Ytjljhmeadfejhaa
open Go.Eng
/-- A row that a function has made. -/
def rowJ (l : List AV) : AV := match l with
  | [] => .esl
  | x :: r => .rsl (x :: r)
theorem rowJ_ne {l : List AV} (h : l ≠ []) : rowJ l = .rsl l := by cases l <;> simp_all [rowJ]
@[simp] theorem rowJ_nil : rowJ [] = .esl := rfl
@[simp] theorem ro_rowJ (l : List AV) : ro (rowJ l) = some (.rsl l) := by cases l <;> rfl
@[simp] theorem nrm_rowJ (l : List AV) : nrm (rowJ l) = .rsl l := by cases l <;> rfl
@[simp] theorem cells_rowJ (l : List AV) : (rowJ l).cells = [rowJ l] := by cases l <;> rfl
@[simp] theorem one_rowJ (l : List AV) : (rowJ l).one = true := by cases l <;> rfl
@[simp] theorem bel_rowJ (n : Nat) (l : List AV) : (rowJ l).bel n = true := by cases l <;> rfl
@[simp] theorem out_rowJ (h : List AO) (m k : Nat) (l : List AV) : out m h (k + 1) (rowJ l) = some (rowJ l) := by cases l <;> simp [rowJ, out]
abbrev tyC (t : Ty) : List AV := [.int .i64 t.kind, .str t.name, rowJ (t.of.map Ty.av)]
abbrev wList : ByteArray := ⟨#[108, 105, 115, 116]⟩
abbrev wMap : ByteArray := ⟨#[109, 97, 112]⟩
def baseP (l : List Tok) (rec : PS → Ty × PS) (s : PS) : Ty × PS :=
  if 0 < plainM (nowP l s).text then (.mk (plainM (nowP l s).text) ⟨#[]⟩ [], ⟨s.pos + 1, s.err, s.eat⟩)
  else if (mayP l wList s).1 = true then
    (.mk 7 ⟨#[]⟩ [(rec (needP l ⟨#[60]⟩ (mayP l wList s).2)).1], needP l ⟨#[62]⟩ (rec (needP l ⟨#[60]⟩ (mayP l wList s).2)).2)
  else if (mayP l wMap s).1 = true then
    (.mk 8 ⟨#[]⟩ [(rec (needP l ⟨#[60]⟩ (mayP l wMap s).2)).1, (rec (needP l ⟨#[44]⟩ (rec (needP l ⟨#[60]⟩ (mayP l wMap s).2)).2)).1], needP l ⟨#[62]⟩ (rec (needP l ⟨#[44]⟩ (rec (needP l ⟨#[60]⟩ (mayP l wMap s).2)).2)).2)
  else (.mk 6 (nameP l s).1 [], (nameP l s).2)
def typP (l : List Tok) : Nat → PS → Ty × PS
  | 0, s => (.mk 0 ⟨#[]⟩ [], failP l 10 s)
  | f + 1, s => if s.err = 0 then
      (if (mayP l ⟨#[63]⟩ (baseP l (typP l f) s).2).1 = true then (.mk 9 ⟨#[]⟩ [(baseP l (typP l f) s).1], (mayP l ⟨#[63]⟩ (baseP l (typP l f) s).2).2) else (baseP l (typP l f) s))
    else (.mk 0 ⟨#[]⟩ [], s)
theorem may_false {l : List Tok} {w : ByteArray} {s : PS} (h : ¬ (mayP l w s).1 = true) : (mayP l w s).2 = s := by
  unfold mayP at h ⊢
  split
  · rename_i e; rw [if_pos e] at h; exact absurd rfl h
  · rfl
theorem plain_more {l : List Tok} (T : TL l) {s : PS} (hpos : s.pos < l.length) (h : 0 < plainM (nowP l s).text) : s.pos + 1 < l.length := by
  refine T.more hpos (.inr fun e => ?_)
  rw [e] at h
  exact absurd h (by decide)
theorem base_pos {l : List Tok} (T : TL l) {rec : PS → Ty × PS} (hrec : ∀ s, s.pos < l.length → (rec s).2.pos < l.length) {s : PS} (hpos : s.pos < l.length) : (baseP l rec s).2.pos < l.length := by
  unfold baseP
  split
  · rename_i h; exact plain_more T hpos h
  · split
    · exact need_pos T (hrec _ (need_pos T (may_pos T hpos)))
    · split
      · exact need_pos T (hrec _ (need_pos T (hrec _ (need_pos T (may_pos T hpos)))))
      · exact name_pos T hpos
theorem typ_pos {l : List Tok} (T : TL l) : ∀ (f : Nat) (s : PS), s.pos < l.length → (typP l f s).2.pos < l.length
  | 0, s, h => by rw [typP, fail_pos]; exact h
  | f + 1, s, h => by
    rw [typP]
    have hb := base_pos T (typ_pos T f) h
    split
    · split
      · exact may_pos T hb
      · exact hb
    · exact h
section
variable {pi : Nat} {l : List Tok}
theorem w94 (T : TL l) {d : Int} (hd : 0 ≤ d ∧ d ≤ 9) {rec : PS → Ty × PS} (hrec : ∀ s, s.pos < l.length → (rec s).2.pos < l.length)
    (each : ∀ (H : List AO) (s : PS) (K : ARes → List AO → Prop), H[pi]? = some (pB l s) → s.pos < l.length → K (.ok (.agg (tyC (rec s).1))) (H.set pi (pB l (rec s).2)) → W 73 [.ptr pi 0, .int .i64 (d + 1)] H K)
    {H : List AO} {s : PS} {K : ARes → List AO → Prop} (hp : H[pi]? = some (pB l s)) (hpos : s.pos < l.length) (k : K (.ok (.agg (tyC (baseP l rec s).1))) (H.set pi (pB l (baseP l rec s).2))) : W 94 [.ptr pi 0, .int .i64 d] H K := by
  have hw := wrap_succ (i := s.pos) (by have := T.len; omega)
  have hwd : IntKind.i64.wrap (d + 1) = d + 1 := wrap_i64 _ (by omega) (by omega)
  refine W_of mixed c94 (by simp [A94]) ?_
  simp [A94]
  refine w50 (app_get hp _) hpos ?_
  simp [Tok.av]
  refine w113 ?_
  unfold baseP at k
  by_cases hk : 0 < plainM (nowP l s).text
  · rw [if_pos hk] at k
    simp [hk, app_get hp, app_set hp, hw, fillA, setL]
    refine ret_set (pB_bel l ⟨s.pos + 1, s.err, s.eat⟩ _) (by simp [out, mapO]) ?_
    exact k
  · rw [if_neg hk] at k
    simp [hk]
    refine w74 (app_get hp _) hpos T.len ?_
    by_cases h1 : (mayP l wList s).1 = true
    · rw [if_pos h1] at k
      simp [h1, app_set hp]
      refine w72 T (app_get (get_set hp _) _) (may_pos T hpos) ?_
      simp [app_set (get_set hp _), hwd]
      refine each _ _ _ (app_get (get_set hp _) _) (need_pos T (may_pos T hpos)) ?_
      simp [app_set (get_set hp _)]
      refine w72 T (app_get (get_set hp _) _) (hrec _ (need_pos T (may_pos T hpos))) ?_
      simp [app_set (get_set hp _), fillA, setL]
      refine ret_set (pB_bel l _ _) (by simp [out, mapO]) ?_
      have e : ∀ r : Ty, AV.agg (tyC (.mk 7 ⟨#[]⟩ [r])) = .agg [.int .i64 7, .str ⟨#[]⟩, .rsl [.agg [.int .i64 r.kind, .str r.name, .rsl (r.of.map Ty.av)]]] := fun r => by
        rw [← Ty.cells_eq]; rfl
      rw [e] at k
      exact k
    · rw [if_neg h1] at k
      have e1 := may_false h1
      simp [h1, app_set hp, e1]
      refine w74 (app_get (get_set hp _) _) hpos T.len ?_
      by_cases h2 : (mayP l wMap s).1 = true
      · rw [if_pos h2] at k
        simp [h2, app_set (get_set hp _)]
        refine w72 T (app_get (get_set hp _) _) (may_pos T hpos) ?_
        simp [app_set (get_set hp _), hwd]
        refine each _ _ _ (app_get (get_set hp _) _) (need_pos T (may_pos T hpos)) ?_
        simp [app_set (get_set hp _)]
        refine w72 T (app_get (get_set hp _) _) (hrec _ (need_pos T (may_pos T hpos))) ?_
        simp [app_set (get_set hp _), hwd]
        refine each _ _ _ (app_get (get_set hp _) _) (need_pos T (hrec _ (need_pos T (may_pos T hpos)))) ?_
        simp [app_set (get_set hp _)]
        refine w72 T (app_get (get_set hp _) _) (hrec _ (need_pos T (hrec _ (need_pos T (may_pos T hpos))))) ?_
        simp [app_set (get_set hp _), fillA, setL]
        refine ret_set (pB_bel l _ _) (by simp [out, mapO]) ?_
        have e : ∀ r q : Ty, AV.agg (tyC (.mk 8 ⟨#[]⟩ [r, q])) = .agg [.int .i64 8, .str ⟨#[]⟩, .rsl [.agg [.int .i64 r.kind, .str r.name, .rsl (r.of.map Ty.av)], .agg [.int .i64 q.kind, .str q.name, .rsl (q.of.map Ty.av)]]] := fun r q => by
          rw [← Ty.cells_eq, ← Ty.cells_eq]; rfl
        rw [e] at k
        exact k
      · rw [if_neg h2] at k
        have e2 := may_false h2
        simp [h2, app_set (get_set hp _), e2]
        refine w71 T (app_get (get_set hp _) _) hpos ?_
        simp [app_set (get_set hp _), fillA, setL]
        refine ret_set (pB_bel l _ _) (by simp [out, mapO]) ?_
        exact k
theorem w73 (T : TL l) : ∀ (f : Nat) (d : Int), d + (f : Int) = 9 → 0 ≤ d → ∀ (H : List AO) (s : PS) (K : ARes → List AO → Prop), H[pi]? = some (pB l s) → s.pos < l.length → K (.ok (.agg (tyC (typP l f s).1))) (H.set pi (pB l (typP l f s).2)) → W 73 [.ptr pi 0, .int .i64 d] H K
  | 0, d, hd, hd0, H, s, K, hp, hpos, k => by
    have d9 : d = 9 := by omega
    subst d9
    rw [typP] at k
    refine W_of mixed c73 (by simp [A73]) ?_
    simp [A73]
    refine w51 (app_get hp _) hpos ?_
    simp [app_set hp]
    refine w49 (app_get (get_set hp _) _) ?_
    simp [fail_err, fillA, setL]
    exact ret_set (pB_bel l _ _) (by simp [out, mapO]) k
  | f + 1, d, hd, hd0, H, s, K, hp, hpos, k => by
    have hd8 : ¬ 8 < d := by omega
    have hb := base_pos T (typ_pos T f) hpos
    rw [typP] at k
    refine W_of mixed c73 (by simp [A73]) ?_
    simp [A73, hd8]
    refine w49 (app_get hp _) ?_
    by_cases h0 : s.err = 0
    · rw [if_pos h0] at k
      simp [h0]
      refine w94 T ⟨hd0, by omega⟩ (typ_pos T f) (fun H s K hp hpos k => w73 T f (d + 1) (by omega) (by omega) H s K hp hpos k) (app_get hp _) hpos ?_
      simp [app_set hp]
      refine w74 (app_get (get_set hp _) _) hb T.len ?_
      by_cases h1 : (mayP l ⟨#[63]⟩ (baseP l (typP l f) s).2).1 = true
      · rw [if_pos h1] at k
        simp [h1, app_set (get_set hp _), fillA, setL]
        refine ret_set (pB_bel l _ _) (by simp [out, mapO]) ?_
        have e : ∀ r : Ty, AV.agg (tyC (.mk 9 ⟨#[]⟩ [r])) = .agg [.int .i64 9, .str ⟨#[]⟩, .rsl [.agg [.int .i64 r.kind, .str r.name, .rsl (r.of.map Ty.av)]]] := fun r => by
          rw [← Ty.cells_eq]; rfl
        rw [e] at k
        exact k
      · rw [if_neg h1] at k
        simp [h1, app_set (get_set hp _), may_false h1, fillA, setL]
        refine ret_set (pB_bel l _ _) (by simp [out, mapO]) ?_
        exact k
    · rw [if_neg h0, set_same hp] at k
      simp [h0, fillA, setL]
      exact ret_pureJ (by simp [out, mapO]) k
end
end Go.Proofs.Ytjljhmeadfejhaa

/- The parser's methods and rows, about the engine. -/
set_option maxRecDepth 100000
set_option linter.unusedVariables false
set_option linter.unusedSimpArgs false
namespace Go.Proofs.Ytjljhmeadfejhaa
open Go.Eng
/-! ### places do not go back -/
theorem may_mono (l : List Tok) (w : ByteArray) (s : PS) : s.pos ≤ (mayP l w s).2.pos := by unfold mayP; split <;> simp
theorem need_mono (l : List Tok) (w : ByteArray) (s : PS) : s.pos ≤ (needP l w s).pos := by
  unfold needP
  split
  · exact may_mono l w s
  · rw [fail_pos]; exact may_mono l w s
theorem num_mono (l : List Tok) (s : PS) : s.pos ≤ (numP l s).2.pos := by
  unfold numP
  split
  · split <;> simp
  · simp [fail_pos]
theorem name_mono (l : List Tok) (s : PS) : s.pos ≤ (nameP l s).2.pos := by
  unfold nameP
  split
  · split <;> simp
  · simp [fail_pos]
theorem base_mono {l : List Tok} {rec : PS → Ty × PS} (hrec : ∀ s, s.pos ≤ (rec s).2.pos) (s : PS) : s.pos ≤ (baseP l rec s).2.pos := by
  unfold baseP
  split
  · simp
  · split
    · exact Nat.le_trans (may_mono l wList s) (Nat.le_trans (need_mono l _ _) (Nat.le_trans (hrec _) (need_mono l _ _)))
    · split
      · exact Nat.le_trans (may_mono l wMap s) (Nat.le_trans (need_mono l _ _) (Nat.le_trans (hrec _) (Nat.le_trans (need_mono l _ _) (Nat.le_trans (hrec _) (need_mono l _ _)))))
      · exact name_mono l s
theorem typ_mono (l : List Tok) : ∀ (f : Nat) (s : PS), s.pos ≤ (typP l f s).2.pos
  | 0, s => by rw [typP, fail_pos]; exact Nat.le_refl _
  | f + 1, s => by
    rw [typP]
    have hb := base_mono (l := l) (typ_mono l f) s
    split
    · split
      · exact Nat.le_trans hb (may_mono l _ _)
      · exact hb
    · exact Nat.le_refl _
abbrev wOneway : ByteArray := ⟨#[111, 110, 101, 119, 97, 121]⟩
def methP (l : List Tok) (s : PS) : Mth × PS :=
  let o := mayP l wOneway s
  let n := numP l o.2
  let a := nameP l n.2
  let i := nameP l (needP l ⟨#[40]⟩ a.2)
  let r := nameP l (needP l ⟨#[58]⟩ (needP l ⟨#[41]⟩ i.2))
  (⟨n.1, a.1, i.1, r.1, o.1⟩, r.2)
theorem meth_pos {l : List Tok} (T : TL l) {s : PS} (h : s.pos < l.length) : (methP l s).2.pos < l.length :=
  name_pos T (need_pos T (need_pos T (name_pos T (need_pos T (name_pos T (num_pos T (may_pos T h)))))))
theorem meth_mono (l : List Tok) (s : PS) : s.pos ≤ (methP l s).2.pos :=
  Nat.le_trans (may_mono l _ _) (Nat.le_trans (num_mono l _) (Nat.le_trans (name_mono l _) (Nat.le_trans (need_mono l _ _) (Nat.le_trans (name_mono l _) (Nat.le_trans (need_mono l _ _) (Nat.le_trans (need_mono l _ _) (name_mono l _)))))))
section
variable {pi : Nat} {l : List Tok}
theorem w77 (T : TL l) {H : List AO} {s : PS} {K : ARes → List AO → Prop} (hp : H[pi]? = some (pB l s)) (hpos : s.pos < l.length) (k : K (.ok (methP l s).1.av) (H.set pi (pB l (methP l s).2))) : W 77 [.ptr pi 0] H K := by
  have p1 := may_pos T (w := wOneway) hpos
  have p2 := num_pos T p1
  have p3 := name_pos T p2
  have p4 := need_pos T (w := ⟨#[40]⟩) p3
  have p5 := name_pos T p4
  have p6 := need_pos T (w := ⟨#[41]⟩) p5
  have p7 := need_pos T (w := ⟨#[58]⟩) p6
  refine W_of mixed c77 (by simp [A77]) ?_
  simp [A77]
  refine w74 (app_get hp _) hpos T.len ?_
  simp [app_set hp, fillA, setL]
  refine w70 T (app_get (get_set hp _) _) p1 ?_
  simp [app_set (get_set hp _)]
  refine w71 T (app_get (get_set hp _) _) p2 ?_
  simp [app_set (get_set hp _)]
  refine w72 T (app_get (get_set hp _) _) p3 ?_
  simp [app_set (get_set hp _)]
  refine w71 T (app_get (get_set hp _) _) p4 ?_
  simp [app_set (get_set hp _)]
  refine w72 T (app_get (get_set hp _) _) p5 ?_
  simp [app_set (get_set hp _)]
  refine w72 T (app_get (get_set hp _) _) p6 ?_
  simp [app_set (get_set hp _)]
  refine w71 T (app_get (get_set hp _) _) p7 ?_
  simp [app_set (get_set hp _)]
  refine ret_set (pB_bel l _ _) (by simp [out, mapO]) ?_
  exact k
/-! ### rows -/
def rowsP (l : List Tok) {σ : Type} (step : PS → σ → PS × σ) : Nat → Nat → PS → σ → PS × σ
  | 0, _, s, x => (s, x)
  | f + 1, n, s, x =>
    if s.err = 0 then
      (if (mayP l ⟨#[125]⟩ s).1 = true then ((mayP l ⟨#[125]⟩ s).2, x)
      else if n = 16 ∧ ¬ (nowP l s).kind = 4 then rowsP l step f (n + 1) (failP l 3 s) x
      else rowsP l step f (n + 1) (needP l ⟨#[59]⟩ (step s x).1) (step s x).2)
    else (s, x)
theorem need_err {l : List Tok} {w : ByteArray} {s : PS} (h : (needP l w s).err = 0) : s.pos + 1 ≤ (needP l w s).pos := by
  unfold needP at h ⊢
  split
  · rename_i e
    unfold mayP at e ⊢
    split
    · simp
    · rename_i e'; rw [if_neg e'] at e; cases e
  · rename_i e
    rw [if_neg e] at h
    exact absurd h (fail_err (by decide) _)
theorem w78 (T : TL l) {σ : Type} {D : PS → σ → List AO} {step : PS → σ → PS × σ} {g : FuncId} {first caps : List AV} (hD : ∀ s x, (D s x)[pi]? = some (pB l s)) (hset : ∀ s s' x, (D s x).set pi (pB l s') = D s' x)
    (hpos : ∀ s x, s.pos < l.length → (step s x).1.pos < l.length ∧ s.pos ≤ (step s x).1.pos)
    {len : σ → Nat} (hln : ∀ s x, len (step s x).2 = len x + 1)
    (hrow : ∀ s x (K : ARes → List AO → Prop), s.pos < l.length → len x < 900000000 → K (.ok (.tup [])) (D (step s x).1 (step s x).2) → W g (nrmL first ++ nrmL caps) (D s x) K)
    {s0 : PS} {x0 : σ} (hx0 : len x0 = 0) (hs : s0.pos < l.length) {K : ARes → List AO → Prop} (k : K (.ok (.tup [])) (D (rowsP l step (l.length + 2) 0 (needP l ⟨#[123]⟩ s0) x0).1 (rowsP l step (l.length + 2) 0 (needP l ⟨#[123]⟩ s0) x0).2)) : W 78 [.ptr pi 0, .fn g first caps] (D s0 x0) K := by
  refine W_of mixed c78 (by simp [A78]) ?_
  simp [A78]
  refine w72 T (hD s0 x0) hs ?_
  rw [hset]
  simp
  have hlen := T.len
  obtain ⟨RR, hRR⟩ : ∃ RR, RR = rowsP l step (l.length + 2) 0 (needP l ⟨#[123]⟩ s0) x0 := ⟨_, rfl⟩
  rw [← hRR] at k
  refine lp_indE (ι := Nat × Nat × PS × σ) (fun p => RR = rowsP l step p.1 p.2.1 p.2.2.1 p.2.2.2 ∧ 1 ≤ p.1 ∧ p.2.1 + p.1 = l.length + 2 ∧ len p.2.2.2 ≤ p.2.1 ∧ p.2.2.1.pos < l.length ∧ (p.2.2.1.err = 0 → l.length - p.2.2.1.pos + 1 ≤ p.1)) (fun p => p.1)
    (fun p => [(0, .ptr pi 0), (1, .fn g first caps), (4, .int .i64 (p.2.1 : Int))]) (fun p => D p.2.2.1 p.2.2.2) ?_ (l.length + 2, 0, needP l ⟨#[123]⟩ s0, x0) ⟨hRR, by simp, by simp, by simp [hx0], need_pos T hs, fun _ => by simp; omega⟩ rfl rfl
  rintro ⟨f, n, s, x⟩ ⟨hr, hf1, hnf, hxn, hs, hf⟩ ih
  simp only at hr hf1 hnf hxn hs hf ih ⊢
  have hw := wrap_succ (i := n) (by omega)
  obtain ⟨f, rfl⟩ : ∃ f', f = f' + 1 := ⟨f - 1, by omega⟩
  rw [rowsP] at hr
  simp [A78_l0]
  refine w49 (hD s x) ?_
  by_cases h0 : s.err = 0
  · rw [if_pos h0] at hr
    have hf2 := hf h0
    simp [h0]
    refine w74 (hD s x) hs T.len ?_
    rw [hset]
    by_cases h1 : (mayP l ⟨#[125]⟩ s).1 = true
    · rw [if_pos h1] at hr
      rw [hr] at k
      simp [h1]
      exact .inl k
    · rw [if_neg h1] at hr
      rw [may_false h1]
      have hrow' : ∀ (K : ARes → List AO → Prop), K (.ok (.tup [])) (D (step s x).1 (step s x).2) → W g (nrmL first ++ (nrmL [] ++ nrmL caps)) (D s x) K := fun K k => hrow s x K hs (by omega) k
      have next := ih (f, n + 1, needP l ⟨#[59]⟩ (step s x).1, (step s x).2)
      obtain ⟨q1, q2⟩ := hpos s x hs
      have nx : ¬ (n = 16 ∧ ¬ (nowP l s).kind = 4) → LP ⟨intPg Try.prog 0 .i64, D s0 x0, [], K⟩ [0, 1, 4] A78_l0 [KI.blk 0] [(0, .ptr pi 0), (1, .fn g first caps), (4, .int .i64 ((n + 1 : Nat) : Int))] (D (needP l ⟨#[59]⟩ (step s x).1) (step s x).2) := by
        intro hno
        rw [if_neg hno] at hr
        refine next ⟨hr, (by show 1 ≤ f; omega), (by show n + 1 + f = l.length + 2; omega), (by show len (step s x).2 ≤ n + 1; rw [hln]; omega), need_pos T q1, fun e => ?_⟩ (by show f < f + 1; omega)
        have := need_err e
        have := need_pos T (w := ⟨#[59]⟩) q1
        show l.length - (needP l ⟨#[59]⟩ (step s x).1).pos + 1 ≤ f
        omega
      by_cases h16 : n = 16
      · simp [h1, h16]
        refine w50 (hD s x) hs ?_
        by_cases h4 : (nowP l s).kind = 4
        · have nx := nx (fun e => e.2 h4)
          subst h16
          simp [Tok.av, h4]
          refine w49 (hD s x) ?_
          simp [h0]
          refine hrow' _ ?_
          simp
          refine w72 T (hD _ _) q1 ?_
          rw [hset]
          simp [hw]
          exact nx
        · rw [if_pos ⟨h16, h4⟩] at hr
          subst h16
          simp [Tok.av, h4]
          refine w51 (hD s x) hs ?_
          rw [hset]
          simp
          refine w49 (hD _ _) ?_
          simp [fail_err, hw]
          have nn := ih (f, 16 + 1, failP l 3 s, x) ⟨hr, (by show 1 ≤ f; omega), (by show 16 + 1 + f = l.length + 2; omega), (by show len x ≤ 16 + 1; omega), (by show (failP l 3 s).pos < _; rw [fail_pos]; exact hs), fun e => absurd e (fail_err (by decide) _)⟩ (by show f < f + 1; omega)
          exact nn
      · have nx := nx (fun e => h16 e.1)
        have h16' : ¬ (n : Int) = 16 := by omega
        simp [h1, h16, h16']
        refine w49 (hD s x) ?_
        simp [h0]
        refine hrow' _ ?_
        simp
        refine w72 T (hD _ _) q1 ?_
        rw [hset]
        simp [hw]
        exact nx
  · rw [if_neg h0] at hr
    rw [hr] at k
    simp [h0]
    exact .inl k
end
end Go.Proofs.Ytjljhmeadfejhaa

/- The parser's rows that are fields, values of an enum, methods, about the engine. -/
set_option maxRecDepth 100000
set_option linter.unusedVariables false
set_option linter.unusedSimpArgs false
namespace Go.Proofs.Ytjljhmeadfejhaa
open Go.Eng
def fieldP (l : List Tok) (s : PS) : Fld × PS :=
  let n := numP l s
  let a := nameP l n.2
  let t := typP l 9 (needP l ⟨#[58]⟩ a.2)
  (⟨n.1, a.1, t.1⟩, t.2)
def enumP (l : List Tok) (s : PS) : Fld × PS :=
  let n := numP l s
  let a := nameP l n.2
  (⟨n.1, a.1, .mk 0 ⟨#[]⟩ []⟩, a.2)
theorem field_pos {l : List Tok} (T : TL l) {s : PS} (h : s.pos < l.length) : (fieldP l s).2.pos < l.length ∧ s.pos ≤ (fieldP l s).2.pos :=
  ⟨typ_pos T _ _ (need_pos T (name_pos T (num_pos T h))), Nat.le_trans (num_mono l _) (Nat.le_trans (name_mono l _) (Nat.le_trans (need_mono l _ _) (typ_mono l _ _)))⟩
theorem enum_pos {l : List Tok} (T : TL l) {s : PS} (h : s.pos < l.length) : (enumP l s).2.pos < l.length ∧ s.pos ≤ (enumP l s).2.pos :=
  ⟨name_pos T (num_pos T h), Nat.le_trans (num_mono l _) (name_mono l _)⟩
abbrev fcR (f : Fld) : List AV := [.int .i64 f.tag, .str f.name, .int .i64 f.ty.kind, .str f.ty.name, rowJ (f.ty.of.map Ty.av)]
section
variable {l : List Tok} {pi ri di ti : Nat} {G : List AO} {s : PS} {K : ARes → List AO → Prop} {kd e : Int} {nm : ByteArray} {M : AV}
theorem w69E (T : TL l) (hp : G[pi]? = some (pB l s)) (hr : G[ri]? = some (.box [.ptr pi 0])) (hd : G[di]? = some (.box [.int .i64 kd, .str nm, .esl, M, .int .i64 e])) (n1 : pi ≠ ri) (n2 : pi ≠ di) (n3 : ri ≠ di) (hpos : s.pos < l.length)
    (k : K (.ok (.tup [])) ((G.set pi (pB l (fieldP l s).2)).set di (.box [.int .i64 kd, .str nm, .osl (G.length + 1) [(fieldP l s).1.av], M, .int .i64 e]) ++ [.box (fcR (fieldP l s).1), .tok 76 5 1])) : W 69 [.ptr ri 0, .ptr di 0] G K := by
  have ir := (List.getElem?_eq_some_iff.1 hr).1
  have id_ := (List.getElem?_eq_some_iff.1 hd).1
  have ip := (List.getElem?_eq_some_iff.1 hp).1
  have r1 : ∀ c : AO, (G.set pi c)[ri]? = some (.box [.ptr pi 0]) := fun c => by rw [List.getElem?_set_ne n1]; exact hr
  have d1 : ∀ c : AO, (G.set pi c)[di]? = some (.box [.int .i64 kd, .str nm, .esl, M, .int .i64 e]) := fun c => by rw [List.getElem?_set_ne n2]; exact hd
  have r2 : ∀ (c : AO) (X : List AO), (G.set pi c ++ X)[ri]? = some (.box [.ptr pi 0]) := fun c X => by rw [List.getElem?_append_left (by simpa using ir)]; exact r1 c
  have d2 : ∀ (c : AO) (X : List AO), (G.set pi c ++ X)[di]? = some (.box [.int .i64 kd, .str nm, .esl, M, .int .i64 e]) := fun c X => by rw [List.getElem?_append_left (by simpa using id_)]; exact d1 c
  have q1 := num_pos T hpos
  have q2 := name_pos T q1
  have q3 := need_pos T (w := ⟨#[58]⟩) q2
  refine W_of mixed c69 (by simp [A69]) ?_
  simp [A69]
  refine R_regX ?_
  simp [hr]
  refine ⟨_, _, w70 T hp hpos ⟨rfl, rfl⟩, ?_⟩
  simp [r1]
  refine ⟨_, _, w71 T (get_set hp _) q1 ⟨rfl, rfl⟩, ?_⟩
  simp [fillA, setL]
  refine ⟨?_, ?_⟩
  · intro p hp' o' Fi Fk Fk' a1 a2 a3 a4
    simp at hp'
    rcases hp' with rfl | rfl | rfl
    all_goals
      simp at a1 a2 a3 a4
      subst a1 a2 a3 a4
      simp [Go.Eng.valOf, hr, r1, r2]
  · simp [r2]
    refine w72 T (app_get (get_set hp _) _) q2 ?_
    simp [app_set (get_set hp _), r2]
    refine w73 T 9 0 (by omega) (by omega) _ _ _ (app_get (get_set hp _) _) q3 ?_
    simp [app_set (get_set hp _), d2, appA]
    rw [List.set_append_left _ _ (by simpa using id_)]
    exact .inl k
/-- The heap of a later row. -/
theorem w69O (T : TL l) {fs : List Fld} (hp : G[pi]? = some (pB l s)) (hr : G[ri]? = some (.box [.ptr pi 0])) (hd : G[di]? = some (.box [.int .i64 kd, .str nm, .osl ti (fs.map Fld.av), M, .int .i64 e])) (ht : G[ti]? = some (.tok 76 5 fs.length)) (hfl : fs.length < 1000000000)
    (n1 : pi ≠ ri) (n2 : pi ≠ di) (n3 : ri ≠ di) (n4 : pi ≠ ti) (n5 : ri ≠ ti) (n6 : di ≠ ti) (hM : M.bel G.length = true) (hpos : s.pos < l.length)
    (k : K (.ok (.tup [])) (((G.set pi (pB l (fieldP l s).2)).set ti (.tok 76 5 (fs.length + 1))).set di (.box [.int .i64 kd, .str nm, .osl ti ((fs ++ [(fieldP l s).1]).map Fld.av), M, .int .i64 e]))) : W 69 [.ptr ri 0, .ptr di 0] G K := by
  have ir := (List.getElem?_eq_some_iff.1 hr).1
  have id_ := (List.getElem?_eq_some_iff.1 hd).1
  have ip := (List.getElem?_eq_some_iff.1 hp).1
  have it := (List.getElem?_eq_some_iff.1 ht).1
  have r1 : ∀ c : AO, (G.set pi c)[ri]? = some (.box [.ptr pi 0]) := fun c => by rw [List.getElem?_set_ne n1]; exact hr
  have d1 : ∀ c : AO, (G.set pi c)[di]? = some (.box [.int .i64 kd, .str nm, .osl ti (fs.map Fld.av), M, .int .i64 e]) := fun c => by rw [List.getElem?_set_ne n2]; exact hd
  have r2 : ∀ (c : AO) (X : List AO), (G.set pi c ++ X)[ri]? = some (.box [.ptr pi 0]) := fun c X => by rw [List.getElem?_append_left (by simpa using ir)]; exact r1 c
  have d2 : ∀ (c : AO) (X : List AO), (G.set pi c ++ X)[di]? = some (.box [.int .i64 kd, .str nm, .osl ti (fs.map Fld.av), M, .int .i64 e]) := fun c X => by rw [List.getElem?_append_left (by simpa using id_)]; exact d1 c
  have t2 : ∀ (c : AO) (X : List AO), (G.set pi c ++ X)[ti]? = some (.tok 76 5 fs.length) := fun c X => by rw [List.getElem?_append_left (by simpa using it), List.getElem?_set_ne n4]; exact ht
  have ts : ∀ (c c' : AO) (X : List AO), (G.set pi c ++ X).set ti c' = (G.set pi c).set ti c' ++ X := fun c c' X => by rw [List.set_append_left _ _ (by simpa using it)]
  have d3 : ∀ (c c' : AO) (X : List AO), ((G.set pi c).set ti c' ++ X)[di]? = some (.box [.int .i64 kd, .str nm, .osl ti (fs.map Fld.av), M, .int .i64 e]) := fun c c' X => by
    rw [List.getElem?_append_left (by simpa using id_), List.getElem?_set_ne (Ne.symm n6)]; exact d1 c
  have q1 := num_pos T hpos
  have q2 := name_pos T q1
  have q3 := need_pos T (w := ⟨#[58]⟩) q2
  have hb : (fs.length + 1) * 72 ≤ 140737488355328 := by omega
  refine W_of mixed c69 (by simp [A69]) ?_
  simp [A69]
  refine R_regX ?_
  simp [hr]
  refine ⟨_, _, w70 T hp hpos ⟨rfl, rfl⟩, ?_⟩
  simp [r1]
  refine ⟨_, _, w71 T (get_set hp _) q1 ⟨rfl, rfl⟩, ?_⟩
  simp [fillA, setL]
  refine ⟨?_, ?_⟩
  · intro p hp' o' Fi Fk Fk' a1 a2 a3 a4
    simp at hp'
    rcases hp' with rfl | rfl | rfl
    all_goals
      simp at a1 a2 a3 a4
      subst a1 a2 a3 a4
      simp [Go.Eng.valOf, hr, r1, r2]
  · simp [r2]
    refine w72 T (app_get (get_set hp _) _) q2 ?_
    simp [app_set (get_set hp _), r2]
    refine w73 T 9 0 (by omega) (by omega) _ _ _ (app_get (get_set hp _) _) q3 ?_
    simp [app_set (get_set hp _), d2, appA, t2, hb, ts, d3]
    rw [List.set_append_left _ _ (by simpa using id_)]
    refine .inr ⟨G.length, 3, .tup [], ⟨Nat.le_refl _, fun i o hi ho => ?_⟩, by simp [out], ?_⟩
    · rw [List.getElem?_append_left (by simpa using hi)] at ho
      by_cases e1 : di = i
      · subst e1
        rw [List.getElem?_set_self (by simpa using id_)] at ho
        injection ho with ho
        subst ho
        right
        simp [AO.bel, belL, AV.bel, it, hM]
      · rw [List.getElem?_set_ne e1] at ho
        by_cases e2 : ti = i
        · subst e2
          rw [List.getElem?_set_self (by simpa using it)] at ho
          injection ho with ho
          subst ho
          exact .inr rfl
        · rw [List.getElem?_set_ne e2] at ho
          by_cases e3 : pi = i
          · subst e3
            rw [List.getElem?_set_self ip] at ho
            injection ho with ho
            subst ho
            exact .inr (pB_bel _ _ _)
          · rw [List.getElem?_set_ne e3] at ho
            exact .inl ho
    · rw [List.take_left' (by simp)]
      simp [Fld.av, fieldP] at k
      exact k
end
end Go.Proofs.Ytjljhmeadfejhaa

/- The parser's rows that are values of an enum, or methods, about the engine. -/
set_option maxRecDepth 100000
set_option linter.unusedVariables false
set_option linter.unusedSimpArgs false
namespace Go.Proofs.Ytjljhmeadfejhaa
open Go.Eng
section
variable {l : List Tok} {pi ri di ti : Nat} {G : List AO} {s : PS} {K : ARes → List AO → Prop} {kd e : Int} {nm : ByteArray} {M : AV}
theorem w75E (T : TL l) (hp : G[pi]? = some (pB l s)) (hr : G[ri]? = some (.box [.ptr pi 0])) (hd : G[di]? = some (.box [.int .i64 kd, .str nm, .esl, M, .int .i64 e])) (n1 : pi ≠ ri) (n2 : pi ≠ di) (n3 : ri ≠ di) (hpos : s.pos < l.length)
    (k : K (.ok (.tup [])) ((G.set pi (pB l (enumP l s).2)).set di (.box [.int .i64 kd, .str nm, .osl G.length [(enumP l s).1.av], M, .int .i64 e]) ++ [.tok 76 5 1])) : W 75 [.ptr di 0, .ptr ri 0] G K := by
  have ir := (List.getElem?_eq_some_iff.1 hr).1
  have id_ := (List.getElem?_eq_some_iff.1 hd).1
  have ip := (List.getElem?_eq_some_iff.1 hp).1
  have r1 : ∀ c : AO, (G.set pi c)[ri]? = some (.box [.ptr pi 0]) := fun c => by rw [List.getElem?_set_ne n1]; exact hr
  have d1 : ∀ c : AO, (G.set pi c)[di]? = some (.box [.int .i64 kd, .str nm, .esl, M, .int .i64 e]) := fun c => by rw [List.getElem?_set_ne n2]; exact hd
  have d2 : ∀ (c : AO) (X : List AO), (G.set pi c ++ X)[di]? = some (.box [.int .i64 kd, .str nm, .esl, M, .int .i64 e]) := fun c X => by rw [List.getElem?_append_left (by simpa using id_)]; exact d1 c
  have q1 := num_pos T hpos
  refine W_of mixed c75 (by simp [A75]) ?_
  simp [A75]
  refine R_regX ?_
  simp [hr, hd]
  refine ⟨_, _, w70 T hp hpos ⟨rfl, rfl⟩, ?_⟩
  simp [r1]
  refine ⟨_, _, w71 T (get_set hp _) q1 ⟨rfl, rfl⟩, ?_⟩
  simp [fillA, setL, appA, d2]
  refine ⟨?_, ?_⟩
  · intro p hp' o' Fi Fk Fk' a1 a2 a3 a4
    simp at hp'
    rcases hp' with rfl | rfl | rfl
    all_goals
      simp at a1 a2 a3 a4
      subst a1 a2 a3 a4
      simp [Go.Eng.valOf, hr, r1, hd, d1]
  · rw [List.set_append_left _ _ (by simpa using id_)]
    exact .inl k

theorem w75O (T : TL l) {fs : List Fld} (hp : G[pi]? = some (pB l s)) (hr : G[ri]? = some (.box [.ptr pi 0])) (hd : G[di]? = some (.box [.int .i64 kd, .str nm, .osl ti (fs.map Fld.av), M, .int .i64 e])) (ht : G[ti]? = some (.tok 76 5 fs.length)) (hfl : fs.length < 1000000000)
    (n1 : pi ≠ ri) (n2 : pi ≠ di) (n3 : ri ≠ di) (n4 : pi ≠ ti) (n6 : di ≠ ti) (hpos : s.pos < l.length)
    (k : K (.ok (.tup [])) (((G.set pi (pB l (enumP l s).2)).set ti (.tok 76 5 (fs.length + 1))).set di (.box [.int .i64 kd, .str nm, .osl ti ((fs ++ [(enumP l s).1]).map Fld.av), M, .int .i64 e]))) : W 75 [.ptr di 0, .ptr ri 0] G K := by
  have ir := (List.getElem?_eq_some_iff.1 hr).1
  have id_ := (List.getElem?_eq_some_iff.1 hd).1
  have ip := (List.getElem?_eq_some_iff.1 hp).1
  have r1 : ∀ c : AO, (G.set pi c)[ri]? = some (.box [.ptr pi 0]) := fun c => by rw [List.getElem?_set_ne n1]; exact hr
  have d1 : ∀ c : AO, (G.set pi c)[di]? = some (.box [.int .i64 kd, .str nm, .osl ti (fs.map Fld.av), M, .int .i64 e]) := fun c => by rw [List.getElem?_set_ne n2]; exact hd
  have d2 : ∀ (c : AO) (X : List AO), (G.set pi c ++ X)[di]? = some (.box [.int .i64 kd, .str nm, .osl ti (fs.map Fld.av), M, .int .i64 e]) := fun c X => by rw [List.getElem?_append_left (by simpa using id_)]; exact d1 c
  have it := (List.getElem?_eq_some_iff.1 ht).1
  have t1 : ∀ c : AO, (G.set pi c)[ti]? = some (.tok 76 5 fs.length) := fun c => by rw [List.getElem?_set_ne n4]; exact ht
  have d3 : ∀ c c' : AO, ((G.set pi c).set ti c')[di]? = some (.box [.int .i64 kd, .str nm, .osl ti (fs.map Fld.av), M, .int .i64 e]) := fun c c' => by rw [List.getElem?_set_ne (Ne.symm n6)]; exact d1 c
  have hb : (fs.length + 1) * 72 ≤ 140737488355328 := by omega
  have hb2 : (fs.length + 1) * 64 ≤ 140737488355328 := by omega
  have q1 := num_pos T hpos
  refine W_of mixed c75 (by simp [A75]) ?_
  simp [A75]
  refine R_regX ?_
  simp [hr, hd]
  refine ⟨_, _, w70 T hp hpos ⟨rfl, rfl⟩, ?_⟩
  simp [r1]
  refine ⟨_, _, w71 T (get_set hp _) q1 ⟨rfl, rfl⟩, ?_⟩
  simp [fillA, setL, appA, t1, hb, d3]
  refine ⟨?_, ?_⟩
  · intro p hp' o' Fi Fk Fk' a1 a2 a3 a4
    simp at hp'
    rcases hp' with rfl | rfl | rfl
    all_goals
      simp at a1 a2 a3 a4
      subst a1 a2 a3 a4
      simp [Go.Eng.valOf, hr, r1, hd, d1]
  · simp at k
    exact .inl k

theorem w76E (T : TL l) (hp : G[pi]? = some (pB l s)) (hr : G[ri]? = some (.box [.ptr pi 0])) (hd : G[di]? = some (.box [.int .i64 kd, .str nm, M, .esl, .int .i64 e])) (n1 : pi ≠ ri) (n2 : pi ≠ di) (n3 : ri ≠ di) (hpos : s.pos < l.length)
    (k : K (.ok (.tup [])) ((G.set pi (pB l (methP l s).2)).set di (.box [.int .i64 kd, .str nm, M, .osl G.length [(methP l s).1.av], .int .i64 e]) ++ [.tok 42 5 1])) : W 76 [.ptr di 0, .ptr ri 0] G K := by
  have ir := (List.getElem?_eq_some_iff.1 hr).1
  have id_ := (List.getElem?_eq_some_iff.1 hd).1
  have ip := (List.getElem?_eq_some_iff.1 hp).1
  have r1 : ∀ c : AO, (G.set pi c)[ri]? = some (.box [.ptr pi 0]) := fun c => by rw [List.getElem?_set_ne n1]; exact hr
  have d1 : ∀ c : AO, (G.set pi c)[di]? = some (.box [.int .i64 kd, .str nm, M, .esl, .int .i64 e]) := fun c => by rw [List.getElem?_set_ne n2]; exact hd
  have d2 : ∀ (c : AO) (X : List AO), (G.set pi c ++ X)[di]? = some (.box [.int .i64 kd, .str nm, M, .esl, .int .i64 e]) := fun c X => by rw [List.getElem?_append_left (by simpa using id_)]; exact d1 c
  refine W_of mixed c76 (by simp [A76]) ?_
  simp [A76]
  refine R_regX ?_
  simp [hr, hd]
  refine ⟨_, _, w77 T hp hpos ⟨rfl, rfl⟩, ?_⟩
  simp [appA, Mth.av, d2]
  refine ⟨?_, ?_⟩
  · intro p hp' o' Fi Fk Fk' a1 a2 a3 a4
    simp at hp'
    rcases hp' with rfl
    all_goals
      simp at a1 a2 a3 a4
      subst a1 a2 a3 a4
      simp [Go.Eng.valOf, hr, r1, hd, d1]
  · rw [List.set_append_left _ _ (by simpa using id_)]
    exact .inl k

theorem w76O (T : TL l) {fs : List Mth} (hp : G[pi]? = some (pB l s)) (hr : G[ri]? = some (.box [.ptr pi 0])) (hd : G[di]? = some (.box [.int .i64 kd, .str nm, M, .osl ti (fs.map Mth.av), .int .i64 e])) (ht : G[ti]? = some (.tok 42 5 fs.length)) (hfl : fs.length < 1000000000)
    (n1 : pi ≠ ri) (n2 : pi ≠ di) (n3 : ri ≠ di) (n4 : pi ≠ ti) (n6 : di ≠ ti) (hpos : s.pos < l.length)
    (k : K (.ok (.tup [])) (((G.set pi (pB l (methP l s).2)).set ti (.tok 42 5 (fs.length + 1))).set di (.box [.int .i64 kd, .str nm, M, .osl ti ((fs ++ [(methP l s).1]).map Mth.av), .int .i64 e]))) : W 76 [.ptr di 0, .ptr ri 0] G K := by
  have ir := (List.getElem?_eq_some_iff.1 hr).1
  have id_ := (List.getElem?_eq_some_iff.1 hd).1
  have ip := (List.getElem?_eq_some_iff.1 hp).1
  have r1 : ∀ c : AO, (G.set pi c)[ri]? = some (.box [.ptr pi 0]) := fun c => by rw [List.getElem?_set_ne n1]; exact hr
  have d1 : ∀ c : AO, (G.set pi c)[di]? = some (.box [.int .i64 kd, .str nm, M, .osl ti (fs.map Mth.av), .int .i64 e]) := fun c => by rw [List.getElem?_set_ne n2]; exact hd
  have d2 : ∀ (c : AO) (X : List AO), (G.set pi c ++ X)[di]? = some (.box [.int .i64 kd, .str nm, M, .osl ti (fs.map Mth.av), .int .i64 e]) := fun c X => by rw [List.getElem?_append_left (by simpa using id_)]; exact d1 c
  have it := (List.getElem?_eq_some_iff.1 ht).1
  have t1 : ∀ c : AO, (G.set pi c)[ti]? = some (.tok 42 5 fs.length) := fun c => by rw [List.getElem?_set_ne n4]; exact ht
  have d3 : ∀ c c' : AO, ((G.set pi c).set ti c')[di]? = some (.box [.int .i64 kd, .str nm, M, .osl ti (fs.map Mth.av), .int .i64 e]) := fun c c' => by rw [List.getElem?_set_ne (Ne.symm n6)]; exact d1 c
  have hb : (fs.length + 1) * 72 ≤ 140737488355328 := by omega
  have hb2 : (fs.length + 1) * 64 ≤ 140737488355328 := by omega
  refine W_of mixed c76 (by simp [A76]) ?_
  simp [A76]
  refine R_regX ?_
  simp [hr, hd]
  refine ⟨_, _, w77 T hp hpos ⟨rfl, rfl⟩, ?_⟩
  simp [appA, Mth.av, t1, hb2, d3]
  refine ⟨?_, ?_⟩
  · intro p hp' o' Fi Fk Fk' a1 a2 a3 a4
    simp at hp'
    rcases hp' with rfl
    all_goals
      simp at a1 a2 a3 a4
      subst a1 a2 a3 a4
      simp [Go.Eng.valOf, hr, r1, hd, d1]
  · simp at k
    exact .inl k
end
end Go.Proofs.Ytjljhmeadfejhaa

/- The parser's declarations, about the engine. -/
set_option maxRecDepth 100000
set_option linter.unusedVariables false
set_option linter.unusedSimpArgs false
namespace Go.Proofs.Ytjljhmeadfejhaa
open Go.Eng
def fStep (l : List Tok) (s : PS) (fs : List Fld) : PS × List Fld := ((fieldP l s).2, fs ++ [(fieldP l s).1])
def eStep (l : List Tok) (s : PS) (fs : List Fld) : PS × List Fld := ((enumP l s).2, fs ++ [(enumP l s).1])
def mStep (l : List Tok) (s : PS) (ms : List Mth) : PS × List Mth := ((methP l s).2, ms ++ [(methP l s).1])
abbrev zeroD : AO := .box [.int .i64 0, .str ⟨#[]⟩, .esl, .esl, .int .i64 0]
section
variable (l : List Tok) (pi : Nat) (Hh : List AO) (kd e : Int) (nm : ByteArray)
/-- The heap of a declaration's rows: fields. -/
def dF (s : PS) : List Fld → List AO
  | [] => Hh.set pi (pB l s) ++ [.box [.ptr pi 0], zeroD, .box [.int .i64 kd, .str nm, .esl, .esl, .int .i64 e]]
  | f :: fs => Hh.set pi (pB l s) ++ [.box [.ptr pi 0], zeroD, .box [.int .i64 kd, .str nm, .osl (Hh.length + 4) ((f :: fs).map Fld.av), .esl, .int .i64 e], .box (fcR f), .tok 76 5 (f :: fs).length]
/-- Values of an enum. -/
def dE (s : PS) : List Fld → List AO
  | [] => Hh.set pi (pB l s) ++ [.box [.ptr pi 0], zeroD, .box [.int .i64 kd, .str nm, .esl, .esl, .int .i64 e]]
  | f :: fs => Hh.set pi (pB l s) ++ [.box [.ptr pi 0], zeroD, .box [.int .i64 kd, .str nm, .osl (Hh.length + 3) ((f :: fs).map Fld.av), .esl, .int .i64 e], .tok 76 5 (f :: fs).length]
/-- Methods. -/
def dM (s : PS) : List Mth → List AO
  | [] => Hh.set pi (pB l s) ++ [.box [.ptr pi 0], zeroD, .box [.int .i64 kd, .str nm, .esl, .esl, .int .i64 e]]
  | f :: fs => Hh.set pi (pB l s) ++ [.box [.ptr pi 0], zeroD, .box [.int .i64 kd, .str nm, .esl, .osl (Hh.length + 3) ((f :: fs).map Mth.av), .int .i64 e], .tok 42 5 (f :: fs).length]
end
section
variable {l : List Tok} {pi : Nat} {Hh : List AO} {kd e : Int} {nm : ByteArray}
theorem setpi (hpi : pi < Hh.length) (s s' : PS) (X : List AO) : (Hh.set pi (pB l s) ++ X).set pi (pB l s') = Hh.set pi (pB l s') ++ X := by
  rw [List.set_append_left _ _ (by simpa using hpi), List.set_set]
theorem getpi (hpi : pi < Hh.length) (s : PS) (X : List AO) : (Hh.set pi (pB l s) ++ X)[pi]? = some (pB l s) := by
  rw [List.getElem?_append_left (by simpa using hpi), List.getElem?_set_self hpi]
theorem rowsF (T : TL l) (hpi : pi < Hh.length) {s : PS} (hs : s.pos < l.length) {K : ARes → List AO → Prop}
    (k : K (.ok (.tup [])) (dF l pi Hh kd e nm (rowsP l (fStep l) (l.length + 2) 0 (needP l ⟨#[123]⟩ s) []).1 (rowsP l (fStep l) (l.length + 2) 0 (needP l ⟨#[123]⟩ s) []).2)) :
    W 78 [.ptr pi 0, .fn 69 [] [.ptr Hh.length 0, .ptr (Hh.length + 2) 0]] (dF l pi Hh kd e nm s []) K := by
  refine w78 (D := fun s fs => dF l pi Hh kd e nm s fs) (step := fStep l) (len := List.length) T (fun s x => ?_) (fun s s' x => ?_) (fun s x h => field_pos T h) (fun s x => by simp [fStep]) (fun s x K h hx k => ?_) rfl hs k
  · cases x <;> simp only [dF] <;> exact getpi hpi _ _
  · cases x <;> simp only [dF] <;> exact setpi hpi _ _ _
  · show W 69 [.ptr Hh.length 0, .ptr (Hh.length + 2) 0] (dF l pi Hh kd e nm s x) K
    cases x with
    | nil =>
      refine w69E (M := .esl) (kd := kd) (nm := nm) (e := e) T (getpi hpi _ _) (by simp [dF]) (by simp [dF]) (by omega) (by omega) (by omega) h ?_
      simp only [dF]
      rw [setpi hpi]
      simp [fStep, dF] at k
      simp [List.set_append_right]
      exact k
    | cons f fs =>
      refine w69O (M := .esl) (kd := kd) (nm := nm) (e := e) (ti := Hh.length + 4) (fs := f :: fs) T (getpi hpi _ _) (by simp [dF]) (by simp [dF]) (by simp [dF]) (by simp at hx ⊢; omega) (by omega) (by omega) (by omega) (by omega) (by omega) (by omega) rfl h ?_
      simp only [dF]
      rw [setpi hpi]
      simp [fStep, dF] at k
      simp [List.set_append_right]
      exact k
theorem rowsE (T : TL l) (hpi : pi < Hh.length) {s : PS} (hs : s.pos < l.length) {K : ARes → List AO → Prop}
    (k : K (.ok (.tup [])) (dE l pi Hh kd e nm (rowsP l (eStep l) (l.length + 2) 0 (needP l ⟨#[123]⟩ s) []).1 (rowsP l (eStep l) (l.length + 2) 0 (needP l ⟨#[123]⟩ s) []).2)) :
    W 78 [.ptr pi 0, .fn 75 [] [.ptr (Hh.length + 2) 0, .ptr Hh.length 0]] (dE l pi Hh kd e nm s []) K := by
  refine w78 (D := fun s fs => dE l pi Hh kd e nm s fs) (step := eStep l) (len := List.length) T (fun s x => ?_) (fun s s' x => ?_) (fun s x h => enum_pos T h) (fun s x => by simp [eStep]) (fun s x K h hx k => ?_) rfl hs k
  · cases x <;> simp only [dE] <;> exact getpi hpi _ _
  · cases x <;> simp only [dE] <;> exact setpi hpi _ _ _
  · show W 75 [.ptr (Hh.length + 2) 0, .ptr Hh.length 0] (dE l pi Hh kd e nm s x) K
    cases x with
    | nil =>
      refine w75E (M := .esl) (kd := kd) (nm := nm) (e := e) T (getpi hpi _ _) (by simp [dE]) (by simp [dE]) (by omega) (by omega) (by omega) h ?_
      simp only [dE]
      rw [setpi hpi]
      simp [eStep, dE] at k
      simp [List.set_append_right]
      exact k
    | cons f fs =>
      refine w75O (M := .esl) (kd := kd) (nm := nm) (e := e) (ti := Hh.length + 3) (fs := f :: fs) T (getpi hpi _ _) (by simp [dE]) (by simp [dE]) (by simp [dE]) (by simp at hx ⊢; omega) (by omega) (by omega) (by omega) (by omega) (by omega) h ?_
      simp only [dE]
      rw [setpi hpi]
      simp [eStep, dE] at k
      simp [List.set_append_right]
      exact k
theorem rowsM (T : TL l) (hpi : pi < Hh.length) {s : PS} (hs : s.pos < l.length) {K : ARes → List AO → Prop}
    (k : K (.ok (.tup [])) (dM l pi Hh kd e nm (rowsP l (mStep l) (l.length + 2) 0 (needP l ⟨#[123]⟩ s) []).1 (rowsP l (mStep l) (l.length + 2) 0 (needP l ⟨#[123]⟩ s) []).2)) :
    W 78 [.ptr pi 0, .fn 76 [] [.ptr (Hh.length + 2) 0, .ptr Hh.length 0]] (dM l pi Hh kd e nm s []) K := by
  refine w78 (D := fun s fs => dM l pi Hh kd e nm s fs) (step := mStep l) (len := List.length) T (fun s x => ?_) (fun s s' x => ?_) (fun s x h => ⟨meth_pos T h, meth_mono l s⟩) (fun s x => by simp [mStep]) (fun s x K h hx k => ?_) rfl hs k
  · cases x <;> simp only [dM] <;> exact getpi hpi _ _
  · cases x <;> simp only [dM] <;> exact setpi hpi _ _ _
  · show W 76 [.ptr (Hh.length + 2) 0, .ptr Hh.length 0] (dM l pi Hh kd e nm s x) K
    cases x with
    | nil =>
      refine w76E (M := .esl) (kd := kd) (nm := nm) (e := e) T (getpi hpi _ _) (by simp [dM]) (by simp [dM]) (by omega) (by omega) (by omega) h ?_
      simp only [dM]
      rw [setpi hpi]
      simp [mStep, dM] at k
      simp [List.set_append_right]
      exact k
    | cons f fs =>
      refine w76O (M := .esl) (kd := kd) (nm := nm) (e := e) (ti := Hh.length + 3) (fs := f :: fs) T (getpi hpi _ _) (by simp [dM]) (by simp [dM]) (by simp [dM]) (by simp at hx ⊢; omega) (by omega) (by omega) (by omega) (by omega) (by omega) h ?_
      simp only [dM]
      rw [setpi hpi]
      simp [mStep, dM] at k
      simp [List.set_append_right]
      exact k
end
end Go.Proofs.Ytjljhmeadfejhaa

/- The parser's declarations, about the engine: the whole. -/
set_option maxRecDepth 100000
set_option linter.unusedVariables false
set_option linter.unusedSimpArgs false
namespace Go.Proofs.Ytjljhmeadfejhaa
open Go.Eng
abbrev kwStruct : ByteArray := ⟨#[115, 116, 114, 117, 99, 116]⟩
abbrev kwUnion : ByteArray := ⟨#[117, 110, 105, 111, 110]⟩
abbrev kwEnum : ByteArray := ⟨#[101, 110, 117, 109]⟩
abbrev kwService : ByteArray := ⟨#[115, 101, 114, 118, 105, 99, 101]⟩
def fieldsP (l : List Tok) (s : PS) : PS × List Fld := rowsP l (fStep l) (l.length + 2) 0 (needP l ⟨#[123]⟩ s) []
def valuesP (l : List Tok) (s : PS) : PS × List Fld := rowsP l (eStep l) (l.length + 2) 0 (needP l ⟨#[123]⟩ s) []
def methsP (l : List Tok) (s : PS) : PS × List Mth := rowsP l (mStep l) (l.length + 2) 0 (needP l ⟨#[123]⟩ s) []
def withF (l : List Tok) (e kd : Int) (s : PS) : Decl × PS := (⟨kd, (nameP l s).1, (fieldsP l (nameP l s).2).2, [], e⟩, (fieldsP l (nameP l s).2).1)
def withE (l : List Tok) (e kd : Int) (s : PS) : Decl × PS := (⟨kd, (nameP l s).1, (valuesP l (nameP l s).2).2, [], e⟩, (valuesP l (nameP l s).2).1)
def withM (l : List Tok) (e kd : Int) (s : PS) : Decl × PS := (⟨kd, (nameP l s).1, [], (methsP l (nameP l s).2).2, e⟩, (methsP l (nameP l s).2).1)
def declP (l : List Tok) (s : PS) : Decl × PS :=
  if (mayP l kwStruct s).1 = true then withF l (nowP l s).at_ 1 (mayP l kwStruct s).2
  else if (mayP l kwUnion s).1 = true then withF l (nowP l s).at_ 2 (mayP l kwUnion s).2
  else if (mayP l kwEnum s).1 = true then withE l (nowP l s).at_ 3 (mayP l kwEnum s).2
  else if (mayP l kwService s).1 = true then withM l (nowP l s).at_ 4 (mayP l kwService s).2
  else withF l (nowP l s).at_ 0 (failP l 5 s)
abbrev dclC (d : Decl) : List AV := [.int .i64 d.kind, .str d.name, rowJ (d.fields.map Fld.av), rowJ (d.methods.map Mth.av), .int .i64 d.e]
section
variable {l : List Tok} {pi : Nat} {Hh : List AO}
theorem ret_setO {b : AO} {X : List AO} {x0 x : AV} {K : ARes → List AO → Prop} (hb : b.bel Hh.length = true) (hx : out Hh.length (Hh.set pi b ++ X) 3 x0 = some x) (k : K (.ok x) (Hh.set pi b)) : retK Hh K x0 (Hh.set pi b ++ X) :=
  .inr ⟨Hh.length, 3, x, drop_set hb X, hx, by rw [List.take_left' (by simp)]; exact k⟩
theorem w48 (T : TL l) {s : PS} (hp : Hh[pi]? = some (pB l s)) (hs : s.pos < l.length) {K : ARes → List AO → Prop} (k : K (.ok (.agg (dclC (declP l s).1))) (Hh.set pi (pB l (declP l s).2))) : W 48 [.ptr pi 0] Hh K := by
  have n3 : ¬ Hh.length + 3 < Hh.length := by omega
  have n4 : ¬ Hh.length + 4 < Hh.length := by omega
  have hpi := (List.getElem?_eq_some_iff.1 hp).1
  refine W_of mixed c48 (by simp [A48]) ?_
  simp [A48]
  refine w50 (app_get hp _) hs ?_
  simp [Tok.av, fillA, setL]
  obtain ⟨e, he⟩ : ∃ e, e = (nowP l s).at_ := ⟨_, rfl⟩
  rw [← he]
  unfold declP at k
  rw [← he] at k
  refine w74 (app_get hp _) hs T.len ?_
  by_cases m0 : (mayP l kwStruct s).1 = true
  · rw [if_pos m0] at k
    simp [m0, app_set hp]
    have p1 := may_pos T (w := kwStruct) hs
    have p2 := name_pos T p1
    refine w71 T (app_get (get_set hp _) _) p1 ?_
    simp [app_set (get_set hp _)]
    refine rowsF (kd := 1) (e := e) (nm := (nameP l (mayP l kwStruct s).2).1) T hpi p2 ?_
    obtain ⟨R, hR⟩ : ∃ R, R = fieldsP l (nameP l (mayP l kwStruct s).2).2 := ⟨_, rfl⟩
    have hR' := hR
    unfold fieldsP at hR'
    rw [← hR']
    unfold withF at k
    rw [← hR] at k
    obtain ⟨s9, fs⟩ := R
    cases fs with
    | nil =>
      simp [dF]
      refine ret_set (pB_bel l _ _) (by simp [out, mapO]) ?_
      exact k
    | cons f fs =>
      simp [dF, fillA, setL]
      refine ret_setO (pB_bel l _ _) (by simp [out, mapO, n3, n4]; rfl) ?_
      exact k
  rw [if_neg m0] at k
  have e0 := may_false m0
  simp [m0, app_set hp, e0]
  refine w74 (app_get (get_set hp _) _) hs T.len ?_
  by_cases m1 : (mayP l kwUnion s).1 = true
  · rw [if_pos m1] at k
    simp [m1, app_set (get_set hp _)]
    have p1 := may_pos T (w := kwUnion) hs
    have p2 := name_pos T p1
    refine w71 T (app_get (get_set hp _) _) p1 ?_
    simp [app_set (get_set hp _)]
    refine rowsF (kd := 2) (e := e) (nm := (nameP l (mayP l kwUnion s).2).1) T hpi p2 ?_
    obtain ⟨R, hR⟩ : ∃ R, R = fieldsP l (nameP l (mayP l kwUnion s).2).2 := ⟨_, rfl⟩
    have hR' := hR
    unfold fieldsP at hR'
    rw [← hR']
    unfold withF at k
    rw [← hR] at k
    obtain ⟨s9, fs⟩ := R
    cases fs with
    | nil =>
      simp [dF]
      refine ret_set (pB_bel l _ _) (by simp [out, mapO]) ?_
      exact k
    | cons f fs =>
      simp [dF, fillA, setL]
      refine ret_setO (pB_bel l _ _) (by simp [out, mapO, n3, n4]; rfl) ?_
      exact k
  rw [if_neg m1] at k
  have e1 := may_false m1
  simp [m1, app_set (get_set hp _), e1]
  refine w74 (app_get (get_set hp _) _) hs T.len ?_
  by_cases m2 : (mayP l kwEnum s).1 = true
  · rw [if_pos m2] at k
    simp [m2, app_set (get_set hp _)]
    have p1 := may_pos T (w := kwEnum) hs
    have p2 := name_pos T p1
    refine w71 T (app_get (get_set hp _) _) p1 ?_
    simp [app_set (get_set hp _)]
    refine rowsE (kd := 3) (e := e) (nm := (nameP l (mayP l kwEnum s).2).1) T hpi p2 ?_
    obtain ⟨R, hR⟩ : ∃ R, R = valuesP l (nameP l (mayP l kwEnum s).2).2 := ⟨_, rfl⟩
    have hR' := hR
    unfold valuesP at hR'
    rw [← hR']
    unfold withE at k
    rw [← hR] at k
    obtain ⟨s9, fs⟩ := R
    cases fs with
    | nil =>
      simp [dE]
      refine ret_set (pB_bel l _ _) (by simp [out, mapO]) ?_
      exact k
    | cons f fs =>
      simp [dE, fillA, setL]
      refine ret_setO (pB_bel l _ _) (by simp [out, mapO, n3, n4]; rfl) ?_
      exact k
  rw [if_neg m2] at k
  have e2 := may_false m2
  simp [m2, app_set (get_set hp _), e2]
  refine w74 (app_get (get_set hp _) _) hs T.len ?_
  by_cases m3 : (mayP l kwService s).1 = true
  · rw [if_pos m3] at k
    simp [m3, app_set (get_set hp _)]
    have p1 := may_pos T (w := kwService) hs
    have p2 := name_pos T p1
    refine w71 T (app_get (get_set hp _) _) p1 ?_
    simp [app_set (get_set hp _)]
    refine rowsM (kd := 4) (e := e) (nm := (nameP l (mayP l kwService s).2).1) T hpi p2 ?_
    obtain ⟨R, hR⟩ : ∃ R, R = methsP l (nameP l (mayP l kwService s).2).2 := ⟨_, rfl⟩
    have hR' := hR
    unfold methsP at hR'
    rw [← hR']
    unfold withM at k
    rw [← hR] at k
    obtain ⟨s9, fs⟩ := R
    cases fs with
    | nil =>
      simp [dM]
      refine ret_set (pB_bel l _ _) (by simp [out, mapO]) ?_
      exact k
    | cons f fs =>
      simp [dM, fillA, setL]
      refine ret_setO (pB_bel l _ _) (by simp [out, mapO, n3, n4]; rfl) ?_
      exact k
  rw [if_neg m3] at k
  have e3 := may_false m3
  simp [m3, app_set (get_set hp _), e3]
  refine w51 (app_get (get_set hp _) _) hs ?_
  simp [app_set (get_set hp _)]
  have p1 : (failP l 5 s).pos < l.length := by rw [fail_pos]; exact hs
  have p2 := name_pos T p1
  refine w71 T (app_get (get_set hp _) _) p1 ?_
  simp [app_set (get_set hp _)]
  refine rowsF (kd := 0) (e := e) (nm := (nameP l (failP l 5 s)).1) T hpi p2 ?_
  obtain ⟨R, hR⟩ : ∃ R, R = fieldsP l (nameP l (failP l 5 s)).2 := ⟨_, rfl⟩
  have hR' := hR
  unfold fieldsP at hR'
  rw [← hR']
  unfold withF at k
  rw [← hR] at k
  obtain ⟨s9, fs⟩ := R
  cases fs with
  | nil =>
    simp [dF]
    refine ret_set (pB_bel l _ _) (by simp [out, mapO]) ?_
    exact k
  | cons f fs =>
    simp [dF, fillA, setL]
    refine ret_setO (pB_bel l _ _) (by simp [out, mapO, n3, n4]; rfl) ?_
    exact k
end
end Go.Proofs.Ytjljhmeadfejhaa
