/- The engine, part 22: what a reading of an argument stands for. -/
import Derived.Test.YtjljhmeadfejhaaE21
import Derived.ProofKit
import Derived.OpenShut
import Derived.ShutString
import Derived.ChangeOld
import Derived.Below
import Derived.SizedLaws
set_option linter.unusedVariables false
set_option linter.unusedSimpArgs false
namespace Go.Eng

def aggT (P : Program) (t : TypeId) : Bool := match P.underlying t with
  | some (.struct _) | some (.array _ _) => true
  | _ => false
def packT (P : Program) (t : TypeId) (xs : List AV) : AV := if aggT P t then .agg xs else xs.headD .undef
def okF (P : Program) (ok : TypeId → Bool) (all : Nat) : Nat → List Field → Bool
  | off, [] => off == all
  | off, f :: r => f.offset == off && ok f.type && okF P ok all (off + P.cellsOf f.type) r
/-- A set of types whose readings are read-only trees. -/
def okT1 (P : Program) (T : List TypeId) (t : TypeId) : Bool := match P.underlying t with
  | some .bool | some (.int _) | some .string => true
  | some (.slice e) => decide (0 < P.cellsOf e) && T.contains e
  | some (.struct fs) => okF P (fun u => T.contains u) (P.cellsOf t) 0 fs.toList
  | _ => false
def okS (P : Program) (T : List TypeId) : Bool := T.all (okT1 P T)
def ShpF (P : Program) (S : TypeId → List AV → Prop) : List Field → List AV → Prop
  | [], xs => xs = []
  | f :: r, xs => S f.type (xs.take (P.cellsOf f.type)) ∧ ShpF P S r (xs.drop (P.cellsOf f.type))
/-- The shape of what stands for a reading. -/
def Shp (P : Program) : Nat → TypeId → List AV → Prop
  | 0, _, _ => False
  | n + 1, t, xs => match P.underlying t with
    | some .bool => ∃ b, xs = [.bool b]
    | some (.int k) => ∃ m, xs = [.int k m] ∧ (Lit.int k m).wf = true
    | some .string => ∃ s, xs = [.str s] ∧ s.size ≤ reachBytes
    | some (.slice e) => ∃ es, xs = [.rsl es] ∧ es.length * P.bytesOf e ≤ reachBytes ∧ ∀ y ∈ es, ∃ ys, y = packT P e ys ∧ ys.length = P.cellsOf e ∧ Shp P n e ys
    | some (.struct fs) => ShpF P (Shp P n) fs.toList xs
    | _ => False

theorem exists_list {α : Type} {R : Nat → α → Prop} : ∀ (n : Nat), (∀ i, i < n → ∃ y, R i y) → ∃ l : List α, l.length = n ∧ ∀ i y, l[i]? = some y → R i y
  | 0, _ => ⟨[], rfl, fun i y h => by simp at h⟩
  | n + 1, H => by
    obtain ⟨l, h1, h2⟩ := exists_list n (fun i hi => H i (by omega))
    obtain ⟨y, hy⟩ := H n (by omega)
    refine ⟨l ++ [y], by simp [h1], fun i z hz => ?_⟩
    rcases Nat.lt_or_ge i n with hi | hi
    · rw [List.getElem?_append_left (by omega)] at hz; exact h2 i z hz
    · rw [List.getElem?_append_right (by omega)] at hz
      have : i - l.length = 0 := by
        have := (List.getElem?_eq_some_iff.1 hz).1
        simp at this; omega
      rw [this] at hz
      simp at hz
      subst hz
      rw [show i = n by omega]; exact hy

theorem cells?_get {w : World} {base n : Nat} {a : Addr} {l : List Value} (h : w.cells? base a n = some l) : l.length = n ∧ ∀ j, j < n → w.cell? (a.add j) = l[j]? := by
  unfold World.cells? at h
  split at h
  · have h1 := mapM_some_length h
    refine ⟨by simpa using h1, fun j hj => ?_⟩
    exact mapM_some_get h j j (by simp [hj])
  · cases h

theorem cell?_lt {w : World} {a : Addr} {v : Value} (h : w.cell? a = some v) : a.block < w.heap.size := by
  have : w.cells? 0 a 1 = some [v] := by simp [World.cells?, Addr.add, h]
  exact World.cells?_block this (by omega)

section
variable {H : Type} {enc : TypeId × Value → H} {P : Program} {w : World} {sp : Nat → Bool} {held : Bool} {φ : Nat → Loc}

abbrev Old (w : World) : Nat → Nat → Prop := fun b _ => b < w.heap.size

def Reads (P : Program) (φ : Nat → Loc) (w : World) (n : Nat) (t : TypeId) (cs : List Value) : Prop :=
  ∃ xs : List AV, xs.length = cs.length ∧ (∀ (j : Nat) (x : AV), xs[j]? = some x → x.one = true) ∧ (∀ (j : Nat) (x : AV) (v : Value), xs[j]? = some x → cs[j]? = some v → Rel [] φ w (Old w) false x v) ∧ Shp P n t xs

theorem reads_one {n : Nat} {t : TypeId} {x : AV} {v : Value} (h1 : x.one = true) (r : Rel [] φ w (Old w) false x v) (s : Shp P n t [x]) : Reads P φ w n t [v] := by
  refine ⟨[x], rfl, fun j y hy => ?_, fun j y u hy hu => ?_, s⟩
  · cases j <;> simp at hy; subst hy; exact h1
  · cases j <;> simp at hy hu; subst hy hu; exact r

theorem reads_fields {n : Nat} {T : List TypeId} (ih : ∀ t, T.contains t = true → ∀ cs d ps, DataW.trod enc P w 0 sp held n t cs = some (d, ps) → (∀ x ∈ d.weights P t, x ≤ reachBytes) → Reads P φ w n t cs) {cs : List Value} {all : Nat} (hall : cs.length = all) :
    ∀ (fs : List Field) (off : Nat) (parts : List (DataW H × List MemPlace)), okF P (fun u => T.contains u) all off fs = true → parts.length = fs.length → (∀ (i : Nat) (f : Field), fs[i]? = some f → DataW.trod enc P w 0 sp held n f.type ((cs.drop f.offset).take (P.cellsOf f.type)) = parts[i]?) →
      (∀ x ∈ DataW.weightsEach P (fs.map (·.type)) (parts.map (·.1)), x ≤ reachBytes) →
      ∃ xs : List AV, off + xs.length = all ∧ (∀ (j : Nat) (x : AV), xs[j]? = some x → x.one = true) ∧ (∀ (j : Nat) (x : AV) (v : Value), xs[j]? = some x → cs[off + j]? = some v → Rel [] φ w (Old w) false x v) ∧ ShpF P (Shp P n) fs xs
  | [], off, parts, ok, hl, hm, hw => by
    simp only [okF, beq_iff_eq] at ok
    exact ⟨[], by simpa using ok, fun j x hx => by simp at hx, fun j x v hx => by simp at hx, rfl⟩
  | f :: fs, off, [], ok, hl, hm, hw => by cases hl
  | f :: fs, off, (d, ps) :: rest, ok, hl, hm, hw => by
    simp only [okF, Bool.and_eq_true, beq_iff_eq] at ok
    obtain ⟨⟨ok1, ok2⟩, ok3⟩ := ok
    have h1 := hm 0 f rfl
    simp only [List.getElem?_cons_zero] at h1
    simp only [List.map_cons, DataW.weightsEach, List.mem_append] at hw
    obtain ⟨xs, a1, a2, a3, a4⟩ := ih f.type ok2 _ _ _ h1 (fun x hx => hw x (.inl hx))
    obtain ⟨ys, b1, b2, b3, b4⟩ := reads_fields ih hall fs _ rest ok3 (by simpa using hl) (fun i g hg => hm (i + 1) g (by simpa using hg)) (fun x hx => hw x (.inr hx))
    have hlen : xs.length = P.cellsOf f.type := by
      rw [a1]; simp; omega
    refine ⟨xs ++ ys, by simp; omega, fun j x hx => ?_, fun j x v hx hv => ?_, ?_⟩
    · rcases Nat.lt_or_ge j xs.length with hj | hj
      · rw [List.getElem?_append_left hj] at hx; exact a2 j x hx
      · rw [List.getElem?_append_right hj] at hx; exact b2 _ x hx
    · rcases Nat.lt_or_ge j xs.length with hj | hj
      · rw [List.getElem?_append_left hj] at hx
        refine a3 j x v hx ?_
        rw [List.getElem?_take, if_pos (by omega), List.getElem?_drop, ok1]
        exact hv
      · rw [List.getElem?_append_right hj] at hx
        refine b3 _ x v hx ?_
        rw [← hv]; congr 1; omega
    · refine ⟨?_, ?_⟩
      · rw [List.take_append_of_le_length (by omega), List.take_of_length_le (by omega)]; exact a4
      · rw [List.drop_append_of_le_length (by omega), List.drop_of_length_le (by omega), List.nil_append]; exact b4

theorem weightsAll_mem {e : TypeId} : ∀ {l : List (DataW H)} {i : Nat} {d : DataW H} {x : Nat}, l[i]? = some d → x ∈ d.weights P e → x ∈ DataW.weightsAll P e l
  | [], i, d, x, h, _ => by simp at h
  | y :: l, i, d, x, h, hx => by
    simp only [DataW.weightsAll, List.mem_append]
    cases i with
    | zero => simp at h; subst h; exact .inl hx
    | succ i => exact .inr (weightsAll_mem (by simpa using h) hx)

theorem one_of_ok {T : List TypeId} {e : TypeId} (ok : okT1 P T e = true) (hna : aggT P e = false) {m : Nat} {l : List Value} {x : DataW H × List MemPlace} (ht : DataW.trod enc P w 0 sp held m e l = some x) : l.length = 1 := by
  simp only [okT1] at ok
  split at ok
  · rename_i hu; obtain ⟨b, rfl, _⟩ := DataW.trod_bool hu ht; rfl
  · rename_i k hu; obtain ⟨b, rfl, _⟩ := DataW.trod_int hu ht; rfl
  · rename_i hu; obtain ⟨b, rfl, _⟩ := DataW.trod_string hu ht; rfl
  · rename_i e' hu
    rcases DataW.trod_slice hu ht with ⟨rfl, hd⟩ | ⟨a, len, cap, elems, rest, m, _, rfl, _⟩ <;> rfl
  · rename_i fs hu; simp [aggT, hu] at hna
  · cases ok
theorem trod_reads {T : List TypeId} (hT : okS P T = true) : ∀ (fuel : Nat) (t : TypeId), T.contains t = true → ∀ cs d ps, DataW.trod enc P w 0 sp held fuel t cs = some (d, ps) → (∀ x ∈ d.weights P t, x ≤ reachBytes) → Reads P φ w fuel t cs := by
  have hT' : ∀ t, T.contains t = true → okT1 P T t = true := fun t ht => (List.all_eq_true.1 hT) t (by simpa using ht)
  intro fuel
  induction fuel with
  | zero => intro t ht cs d ps h; simp [DataW.trod] at h
  | succ n ih =>
    intro t ht cs d ps h hw
    have ok := hT' t ht
    simp only [okT1] at ok
    split at ok
    · rename_i hu
      obtain ⟨b, rfl, _⟩ := DataW.trod_bool hu h
      exact reads_one rfl (.bool false b) (by simp only [Shp, hu]; exact ⟨b, rfl⟩)
    · rename_i k hu
      obtain ⟨z, rfl, _, hz⟩ := DataW.trod_int hu h
      exact reads_one rfl (.int false _ z) (by simp only [Shp, hu]; exact ⟨z, rfl, hz⟩)
    · rename_i hu
      obtain ⟨s, rfl, hd, hs⟩ := DataW.trod_string hu h
      injection hd with hd _
      subst hd
      refine reads_one rfl (.str false s) ?_
      simp only [Shp, hu]
      refine ⟨s, rfl, ?_⟩
      exact hw s.data.toList.length (by simp [DataW.weights])
    · rename_i e hu
      simp only [Bool.and_eq_true, decide_eq_true_eq] at ok
      rcases DataW.trod_slice hu h with ⟨rfl, hd⟩ | ⟨a, len, cap, elems, rest, m, hfu, rfl, hd, hb, hlc, hcm, hel, hget, _, _⟩
      · refine reads_one rfl (.rsl false [] none 0 1 (fun _ _ => undef) (by simp) (by omega) (by simp) (fun i j x y hx => by simp at hx) (fun i j x y hx => by simp at hx)) ?_
        simp only [Shp, hu]
        exact ⟨[], rfl, by simp, by simp⟩
      · injection hd with hd1 hd2
        subst hd1
        have hm : m = n := by omega
        subst hm
        have hws : ∀ i, i < len → ∀ x ∈ ((elems.map (·.1))[i]?.map fun d => d.weights P e).getD [], x ≤ reachBytes := by
          intro i hi x hx
          have hi' : i < elems.length := by omega
          simp [hi'] at hx
          refine hw x ?_
          simp only [DataW.weights, hu, List.mem_cons, List.mem_append]
          exact .inr (.inl (weightsAll_mem (i := i) (by simp [hi']) hx))
        have each : ∀ i, i < len → ∃ y : AV, y.cells.length = P.cellsOf e ∧ (∀ (j : Nat) (x : AV), y.cells[j]? = some x → x.one = true ∧ ∃ v, w.cell? (a.add (i * P.cellsOf e + j)) = some v ∧ Rel [] φ w (Old w) false x v) ∧
            ∃ ys, y = packT P e ys ∧ ys.length = P.cellsOf e ∧ Shp P m e ys := by
          intro i hi
          have hi' : i < elems.length := by omega
          have hg := hget i hi
          rw [List.getElem?_eq_getElem hi'] at hg
          obtain ⟨l, hl, ht'⟩ := Option.bind_eq_some_iff.1 hg
          obtain ⟨l1, l2⟩ := cells?_get hl
          obtain ⟨xs, x1, x2, x3, x4⟩ := ih e ok.2 _ _ _ ht' (fun x hx => hws i hi x (by rw [List.getElem?_map, List.getElem?_eq_getElem hi']; exact hx))
          have hpk : (packT P e xs).cells = xs := by
            unfold packT
            split
            · rfl
            · rename_i hna
              match xs, x1, x2 with
              | [], q1, _ => simp at q1; omega
              | [x], _, q2 => have := q2 0 x rfl; cases x <;> first | rfl | cases this
              | x :: y :: r, q1, _ =>
                exfalso
                have hone : l.length = 1 := one_of_ok (hT' e ok.2) (by simpa using hna) ht'
                simp at q1; omega
          refine ⟨packT P e xs, by rw [hpk]; omega, fun j x hx => ?_, xs, rfl, by omega, x4⟩
          rw [hpk] at hx
          have hj : j < l.length := by rw [← x1]; exact (List.getElem?_eq_some_iff.1 hx).1
          refine ⟨x2 j x hx, l[j], ?_, x3 j x _ hx (List.getElem?_eq_getElem hj)⟩
          rw [← add_add, l2 j (by omega)]
          exact List.getElem?_eq_getElem hj
        obtain ⟨es, e1, e2⟩ := exists_list len each
        subst e1
        refine reads_one (x := .rsl es) rfl ?_ ?_
        · refine .rsl false es (some a) cap (P.cellsOf e) (fun i j => (w.cell? (a.add (i * P.cellsOf e + j))).getD undef) hlc ok.1 (fun y hy => ?_) (fun i j x y hx hy => ?_) (fun i j x y hx hy => ?_)
          · obtain ⟨i, hi, rfl⟩ := List.getElem_of_mem hy
            exact (e2 i _ (List.getElem?_eq_getElem hi)).1
          · obtain ⟨q1, v, q2, q3⟩ := (e2 i x hx).2.1 j y hy
            have := cell?_lt q2
            rw [add_block] at this
            exact ⟨a, rfl, q1, by rw [q2]; rfl, this⟩
          · obtain ⟨q1, v, q2, q3⟩ := (e2 i x hx).2.1 j y hy
            rw [q2]; exact q3
        · simp only [Shp, hu]
          refine ⟨es, rfl, ?_, fun y hy => ?_⟩
          · have := hw ((elems.length + rest.length) * P.bytesOf e) (by simp [DataW.weights, hu])
            refine Nat.le_trans (Nat.mul_le_mul_right _ ?_) this
            omega
          · obtain ⟨i, hi, rfl⟩ := List.getElem_of_mem hy
            exact (e2 i _ (List.getElem?_eq_getElem hi)).2.2
    · rename_i fs hu
      obtain ⟨xs, m, hfu, hd, hl, hxl, hget⟩ := DataW.trod_struct hu h
      have hm : m = n := by omega
      subst hm
      injection hd with hd1 hd2
      subst hd1
      simp only [DataW.weights, hu] at hw
      obtain ⟨ys, a1, a2, a3, a4⟩ := reads_fields (T := T) (fun t ok => ih t ok) hl fs.toList 0 xs ok (by simpa using hxl) (fun i f hf => hget i f (by simpa using hf)) hw
      exact ⟨ys, by omega, a2, fun j x v hx hv => a3 j x v hx (by simpa using hv), by simp only [Shp, hu]; exact a4⟩
    · cases ok
end
end Go.Eng
