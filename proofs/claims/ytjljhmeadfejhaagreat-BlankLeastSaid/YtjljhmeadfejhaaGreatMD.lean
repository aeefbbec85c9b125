/- YtjljhmeadfejhaaGreatMD: texts of this claim, merged. -/
import Derived.Test.YtjljhmeadfejhaaGreatC1
import Derived.Test.YtjljhmeadfejhaaGreatT0
import Derived.Test.YtjljhmeadfejhaaGreatD1
import Derived.Test.YtjljhmeadfejhaaGreatC2
import Derived.Lib.Bytealg
/- Great, Size, Same and Cmp of values, about the engine. -/
set_option maxRecDepth 100000
set_option linter.unusedVariables false
set_option linter.unusedSimpArgs false
namespace Go.Proofs.YtjljhmeadfejhaaGreat
open Go.Eng
abbrev vcells (v : Val) : List AV := [.int .i64 v.kind, .int .i64 v.num, .str v.text, .rsl (v.tags.map intA), .rsl (v.items.map Val.av)]

mutual
def sizeM : Val → Int
  | .mk _ _ s _ vs => sizeL (IntKind.i64.wrap (8 + (s.size : Int))) vs
def sizeL : Int → List Val → Int
  | m, [] => m
  | m, v :: l => sizeL (IntKind.i64.wrap (m + sizeM v)) l
end
theorem sizeM_eq (v : Val) : sizeM v = sizeL (IntKind.i64.wrap (8 + (v.text.size : Int))) v.items := by cases v; rfl
def deepN (deep : Int) (n : Nat) : Int := IntKind.i64.wrap (IntKind.i64.wrap (deep + 1) + IntKind.i64.wrap ((n : Int) / 4))
def cap (m : Int) : Int := if 100000 < m then 100000 else m
mutual
def greatM : Val → Int → Bool
  | .mk _ _ s l vs, deep => if 40 < deep ∨ (60 : Int) < (vs.length : Int) ∨ (300 : Int) < (l.length : Int) ∨ (2000 : Int) < (s.size : Int) then true else greatL (deepN deep vs.length) 0 vs
def greatL : Int → Int → List Val → Bool
  | _, m, [] => decide (20000 < m)
  | d, m, v :: l => if greatM v d = true then true else greatL d (cap (IntKind.i64.wrap (m + sizeM v))) l
end
theorem greatM_eq (v : Val) (deep : Int) : greatM v deep = if 40 < deep ∨ (60 : Int) < (v.items.length : Int) ∨ (300 : Int) < (v.tags.length : Int) ∨ (2000 : Int) < (v.text.size : Int) then true else greatL (deepN deep v.items.length) 0 v.items := by cases v; rfl

theorem w54 : ∀ (n : Nat) (v : Val), SizeOf.sizeOf v ≤ n → v.ok → ∀ (h : List AO) (K : ARes → List AO → Prop), K (.ok (.int .i64 (sizeM v))) h → W 54 [.agg (vcells v)] h K := by
  intro n
  induction n with
  | zero => intro v hv; cases v; simp at hv
  | succ n IH =>
    intro v hv hok h K k
    obtain ⟨_, _, _, _, _, hl, hvs⟩ := Val.parts hok
    simp only [most] at hl
    have IHm : ∀ u ∈ v.items, SizeOf.sizeOf u ≤ n := fun u hu => by have := Val.lt_of_mem hu; omega
    rw [sizeM_eq] at k
    refine W_of mixed c54 (by simp [A54]) ?_
    simp [A54]
    refine lp_indE (ι := Nat × Int) (fun p => p.1 ≤ v.items.length ∧ sizeL (IntKind.i64.wrap (8 + (v.text.size : Int))) v.items = sizeL p.2 (v.items.drop p.1)) (fun p => v.items.length - p.1)
      (fun p => [(1, .ptr h.length 0), (3, .int .i64 p.2), (4, .int .i64 (p.1 : Int))]) (fun _ => h ++ [.box (vcells v)]) ?_ (0, _) ⟨by simp, by simp; rfl⟩ rfl rfl
    rintro ⟨i, m⟩ ⟨hi, hs⟩ ih
    simp only at hi hs
    have hw := wrap_succ (i := i) (by omega)
    by_cases hlt : i < v.items.length
    · rw [List.drop_eq_getElem_cons hlt, sizeL] at hs
      simp [uf A54_l0.eq_1, hlt, Val.av, Val.cells_eq]
      refine IH v.items[i] (IHm _ (List.getElem_mem hlt)) (hvs _ (List.getElem_mem hlt)) _ _ ?_
      have := ih (i + 1, _) ⟨by simp only; omega, hs⟩ (by simp only; omega)
      simp at this
      simp [hw]
      exact this
    · have : v.items.drop i = [] := List.drop_eq_nil_of_le (by omega)
      rw [this, sizeL] at hs
      simp [uf A54_l0.eq_1, uf A54_r0.eq_1, hlt]
      rw [hs] at k
      exact ret_pure (by simp) k

theorem w18 : ∀ (n : Nat) (v : Val), SizeOf.sizeOf v ≤ n → v.ok → ∀ (h : List AO) (deep : Int) (K : ARes → List AO → Prop), K (.ok (.bool (greatM v deep))) h → W 18 [.agg (vcells v), .int .i64 deep] h K := by
  intro n
  induction n with
  | zero => intro v hv; cases v; simp at hv
  | succ n IH =>
    intro v hv hok h deep K k
    obtain ⟨_, _, _, _, _, hl, hvs⟩ := Val.parts hok
    simp only [most] at hl
    have IHm : ∀ u ∈ v.items, SizeOf.sizeOf u ≤ n := fun u hu => by have := Val.lt_of_mem hu; omega
    rw [greatM_eq] at k
    refine W_of mixed c18 (by simp [A18]) ?_
    by_cases c1 : 40 < deep
    · simp [c1] at k; simp [A18, c1]; exact ret_pure (by simp) k
    by_cases c2 : (60 : Int) < (v.items.length : Int)
    · simp [c2] at k; simp [A18, c1, c2]; exact ret_pure (by simp) k
    by_cases c3 : (300 : Int) < (v.tags.length : Int)
    · simp [c3] at k; simp [A18, c1, c2, c3]; exact ret_pure (by simp) k
    by_cases c4 : (2000 : Int) < (v.text.size : Int)
    · simp [c4] at k; simp [A18, c1, c2, c3, c4]; exact ret_pure (by simp) k
    rw [if_neg (by simp [c1, c2, c3, c4])] at k
    simp [A18, c1, c2, c3, c4]
    refine lp_indE (ι := Nat × Int) (fun p => p.1 ≤ v.items.length ∧ greatL (deepN deep v.items.length) 0 v.items = greatL (deepN deep v.items.length) p.2 (v.items.drop p.1)) (fun p => v.items.length - p.1)
      (fun p => [(1, .int .i64 deep), (2, .ptr h.length 0), (5, .int .i64 p.2), (6, .int .i64 (p.1 : Int))]) (fun _ => h ++ [.box (vcells v)]) ?_ (0, 0) ⟨by simp, by simp⟩ rfl rfl
    rintro ⟨i, m⟩ ⟨hi, hs⟩ ih
    simp only at hi hs
    have hw := wrap_succ (i := i) (by omega)
    by_cases hlt : i < v.items.length
    · rw [List.drop_eq_getElem_cons hlt, greatL] at hs
      simp [uf A18_l0.eq_1, hlt, Val.av, Val.cells_eq]
      refine ⟨_, _, IH v.items[i] (IHm _ (List.getElem_mem hlt)) (hvs _ (List.getElem_mem hlt)) _ _ _ ⟨rfl, rfl⟩, ?_⟩
      rw [show IntKind.i64.wrap (IntKind.i64.wrap (deep + 1) + IntKind.i64.wrap ((v.items.length : Int) / 4)) = deepN deep v.items.length from rfl]
      cases hb : greatM v.items[i] (deepN deep v.items.length) with
      | true =>
        rw [hb, if_pos rfl] at hs
        simp
        rw [hs] at k
        exact ret_pure (by simp) k
      | false =>
        rw [hb, if_neg (by simp)] at hs
        simp [hlt, Val.av, Val.cells_eq]
        refine w54 _ v.items[i] (Nat.le_refl _) (hvs _ (List.getElem_mem hlt)) _ _ ?_
        have := ih (i + 1, _) ⟨by simp only; omega, hs⟩ (by simp only; omega)
        simp at this
        simp [hw]
        exact this
    · have : v.items.drop i = [] := List.drop_eq_nil_of_le (by omega)
      rw [this, greatL] at hs
      simp [uf A18_l0.eq_1, uf A18_r0.eq_1, hlt]
      rw [hs] at k
      exact ret_pure (by simp) k
end Go.Proofs.YtjljhmeadfejhaaGreat

/- Same and Cmp of values, about the engine. -/
set_option maxRecDepth 100000
set_option linter.unusedVariables false
set_option linter.unusedSimpArgs false
namespace Go.Proofs.YtjljhmeadfejhaaGreat
open Go.Eng
mutual
def sameM : Val → Val → Bool
  | .mk k n s l vs, .mk k' n' s' l' vs' => decide (k = k') && (decide (n = n') && (decide (s = s') && (decide (l = l') && sameL vs vs')))
def sameL : List Val → List Val → Bool
  | [], [] => true
  | v :: l, v' :: l' => sameM v v' && sameL l l'
  | _, _ => false
end
theorem sameM_eq (v u : Val) : sameM v u = (decide (v.kind = u.kind) && (decide (v.num = u.num) && (decide (v.text = u.text) && (decide (v.tags = u.tags) && sameL v.items u.items)))) := by cases v; cases u; rfl
theorem sameL_len : ∀ {a b : List Val}, a.length ≠ b.length → sameL a b = false
  | [], [], h => absurd rfl h
  | [], y :: b, _ => rfl
  | x :: a, [], _ => rfl
  | x :: a, y :: b, h => by rw [sameL, sameL_len (by simpa using h)]; simp
mutual
theorem sameM_self : ∀ v : Val, sameM v v = true := by
  intro v
  cases v with
  | mk k n s l vs => rw [sameM, sameL_self vs]; simp
theorem sameL_self : ∀ l : List Val, sameL l l = true := by
  intro l
  cases l with
  | nil => rfl
  | cons v l => rw [sameL, sameM_self v, sameL_self l]; rfl
end
theorem sameL_step {a b : List Val} {i : Nat} (ha : i < a.length) (hb : i < b.length) : sameL (a.drop i) (b.drop i) = (sameM a[i] b[i] && sameL (a.drop (i + 1)) (b.drop (i + 1))) := by
  rw [List.drop_eq_getElem_cons ha, List.drop_eq_getElem_cons hb, sameL]
theorem ints_step {a b : List Int} {i : Nat} (ha : i < a.length) (hb : i < b.length) : decide (a.drop i = b.drop i) = (decide (a[i] = b[i]) && decide (a.drop (i + 1) = b.drop (i + 1))) := by
  have e1 := List.drop_eq_getElem_cons ha
  have e2 := List.drop_eq_getElem_cons hb
  rw [Bool.eq_iff_iff, Bool.and_eq_true, decide_eq_true_eq, decide_eq_true_eq, decide_eq_true_eq]
  generalize a.drop i = p at e1 ⊢
  generalize b.drop i = q at e2 ⊢
  subst e1 e2
  rw [List.cons.injEq]

theorem w68 {h : List AO} {a b : List Int} {K : ARes → List AO → Prop} (hl : a.length < most) (k : K (.ok (.bool (decide (a = b)))) h) : W 68 [.rsl (a.map intA), .rsl (b.map intA)] h K := by
  simp only [most] at hl
  refine W_of mixed c68 (by simp [A68]) ?_
  by_cases hn : a.length = b.length
  · have hn' : (a.length : Int) = (b.length : Int) := by omega
    simp [A68, hn']
    refine lp_for a.length (fun i => decide (a = b) = decide (a.drop i = b.drop i)) (fun i _ => [(0, .rsl (a.map intA)), (1, .rsl (b.map intA)), (5, .int .i64 (i : Int))]) (fun _ => h) ?_ (by simp) (by simp) rfl
    intro i hi hs ih
    have hw := wrap_succ (i := i) (by omega)
    simp at ih
    by_cases hlt : i < a.length
    · have hlt2 : i < b.length := by omega
      rw [ints_step hlt hlt2] at hs
      by_cases he : a[i] = b[i]
      · simp [uf A68_l0.eq_1, hlt, hlt2, intA, he, hw]
        simp only [he, decide_true, Bool.true_and] at hs
        exact ih (by omega) (by simpa using hs)
      · simp [uf A68_l0.eq_1, hlt, hlt2, intA, he, hw]
        simp only [he, decide_false, Bool.false_and] at hs
        rw [hs] at k
        exact .inl k
    · have e1 : a.drop i = [] := List.drop_eq_nil_of_le (by omega)
      have e2 : b.drop i = [] := List.drop_eq_nil_of_le (by omega)
      rw [e1, e2] at hs
      simp [uf A68_l0.eq_1, uf A68_r0.eq_1, hlt]
      rw [hs] at k
      exact .inl k
  · have hn' : ¬ (a.length : Int) = (b.length : Int) := by omega
    have hne : ¬ a = b := fun e => hn (by rw [e])
    simp [hne] at k
    simp [A68, hn']
    exact .inl k

theorem w37 : ∀ (n : Nat) (v u : Val), SizeOf.sizeOf v ≤ n → v.ok → ∀ (h : List AO) (K : ARes → List AO → Prop), K (.ok (.bool (sameM v u))) h → W 37 [.agg (vcells v), .agg (vcells u)] h K := by
  intro n
  induction n with
  | zero => intro v u hv; cases v; simp at hv
  | succ n IH =>
    intro v u hv hok h K k
    obtain ⟨_, _, _, ht, _, hl, hvs⟩ := Val.parts hok
    have hl' := hl
    simp only [most] at hl'
    have IHm : ∀ u ∈ v.items, SizeOf.sizeOf u ≤ n := fun u hu => by have := Val.lt_of_mem hu; omega
    rw [sameM_eq] at k
    refine W_of mixed c37 (by simp [A37]) ?_
    by_cases c1 : v.kind = u.kind
    · by_cases c2 : v.num = u.num
      · by_cases c3 : v.text = u.text
        · simp [A37, c1, c2, c3]
          refine w68 ht ?_
          by_cases c4 : v.tags = u.tags
          · simp [c1, c2, c3, c4] at k
            by_cases hn : v.items.length = u.items.length
            · have hn' : (v.items.length : Int) = (u.items.length : Int) := by omega
              simp [c4, hn']
              refine lp_for v.items.length (fun i => sameL v.items u.items = sameL (v.items.drop i) (u.items.drop i)) (fun i f => setF f 5 (.int .i64 (i : Int))) (fun _ => h ++ [.box (vcells v), .box (vcells u)]) ?_ (by simp) (by simp) (by simp [c1, c2, c3, c4])
              intro i hi hs ih
              have hw := wrap_succ (i := i) (by omega)
              simp at ih
              by_cases hlt : i < v.items.length
              · have hlt2 : i < u.items.length := by omega
                rw [sameL_step hlt hlt2] at hs
                simp [uf A37_l0.eq_1, hlt, hlt2, Val.av, Val.cells_eq]
                refine ⟨_, _, IH _ _ (IHm _ (List.getElem_mem hlt)) (hvs _ (List.getElem_mem hlt)) _ _ ⟨rfl, rfl⟩, ?_⟩
                cases hb : sameM v.items[i] u.items[i] with
                | true =>
                  rw [hb, Bool.true_and] at hs
                  simp [hw]
                  exact ih (by omega) hs
                | false =>
                  rw [hb, Bool.false_and] at hs
                  simp
                  rw [hs] at k
                  exact ret_pure (by simp) k
              · have e1 : v.items.drop i = [] := List.drop_eq_nil_of_le (by omega)
                have e2 : u.items.drop i = [] := List.drop_eq_nil_of_le (by omega)
                rw [e1, e2] at hs
                simp [uf A37_l0.eq_1, uf A37_r0.eq_1, hlt]
                rw [hs] at k
                exact ret_pure (by simp) k
            · have hn' : ¬ (v.items.length : Int) = (u.items.length : Int) := by omega
              rw [sameL_len hn] at k
              simp [c4, hn']
              exact ret_pure (by simp) k
          · simp [c1, c2, c3, c4] at k
            simp [c4]
            exact ret_pure (by simp) k
        · simp [c1, c2, c3] at k
          simp [A37, c1, c2, c3]
          exact ret_pure (by simp) k
      · simp [c1, c2] at k
        simp [A37, c1, c2]
        exact ret_pure (by simp) k
    · simp [c1] at k
      simp [A37, c1]
      exact ret_pure (by simp) k
end Go.Proofs.YtjljhmeadfejhaaGreat

/- How keys stand, about the engine; ValueSame. -/
set_option maxRecDepth 100000
set_option linter.unusedVariables false
set_option linter.unusedSimpArgs false
namespace Go.Proofs.YtjljhmeadfejhaaGreat
open Go.Eng
/-! ### plain -/
def ordM (x y : Int) : Int := if x < y then -1 else if y < x then 1 else 0
theorem ordM_neg (x y : Int) : ordM x y = - ordM y x := by
  unfold ordM
  split <;> split <;> (try split) <;> (try split) <;> omega
theorem compare_neg : ∀ x y : List UInt8, Lib.compareBytes x y = - Lib.compareBytes y x
  | [], [] => rfl
  | [], _ :: _ => rfl
  | _ :: _, [] => rfl
  | a :: x, b :: y => by
    have ih := compare_neg x y
    unfold Lib.compareBytes
    by_cases h1 : a < b
    · have h2 : ¬ b < a := by rw [UInt8.lt_iff_toNat_lt] at *; omega
      simp [h1, h2]
    · by_cases h2 : b < a
      · simp [h1, h2]
      · simp [h1, h2, ih]
theorem u8_eq {a b : UInt8} (h1 : ¬ a < b) (h2 : ¬ b < a) : a = b := by
  rw [UInt8.lt_iff_toNat_lt] at h1 h2
  exact UInt8.toNat_inj.1 (by omega)
theorem compare_less : ∀ x y : List UInt8, Lib.compareBytes x y = (if Op.bytesLess x y = true then -1 else if (Op.bytesLess x y || decide (x = y)) = true then 0 else 1)
  | [], [] => by simp [Lib.compareBytes, Op.bytesLess]
  | [], _ :: _ => by simp [Lib.compareBytes, Op.bytesLess]
  | _ :: _, [] => by simp [Lib.compareBytes, Op.bytesLess]
  | a :: x, b :: y => by
    have ih := compare_less x y
    unfold Lib.compareBytes Op.bytesLess
    by_cases h1 : a < b
    · simp [h1]
    · by_cases h2 : b < a
      · have h3 : ¬ a = b := by intro e; subst e; rw [UInt8.lt_iff_toNat_lt] at h2; omega
        have h4 : (a == b) = false := by simpa using h3
        simp [h1, h2, h3, h4]
      · have h3 := u8_eq h1 h2
        subst h3
        simp [h1, ih]
theorem toList_eq (s : ByteArray) : s.toList = s.data.toList := ByteArray.toList_eq s
def cmpM (a b : Val) : Int :=
  if ¬ a.kind = b.kind then ordM a.kind b.kind
  else if ¬ (a.kind = 1 ∨ a.kind = 2 ∨ a.kind = 3 ∨ a.kind = 6 ∨ a.kind = 4) then 0
  else if a.kind = 4 then Lib.compareBytes a.text.data.toList b.text.data.toList
  else if a.kind = 3 then ordM (IntKind.u64.wrap a.num) (IntKind.u64.wrap b.num) else ordM a.num b.num
theorem cmpM_neg (a b : Val) : cmpM a b = - cmpM b a := by
  unfold cmpM
  by_cases h : a.kind = b.kind
  · have h' : b.kind = a.kind := h.symm
    simp only [h', not_true_eq_false, if_false]
    by_cases hk : a.kind = 1 ∨ a.kind = 2 ∨ a.kind = 3 ∨ a.kind = 6 ∨ a.kind = 4
    · simp only [hk, not_true_eq_false, if_false]
      by_cases h4 : a.kind = 4
      · simp only [h4, if_true]; exact compare_neg _ _
      · simp only [h4, if_false]
        by_cases h3 : a.kind = 3
        · simp only [h3, if_true]; exact ordM_neg _ _
        · simp only [h3, if_false]; exact ordM_neg _ _
    · simp only [hk, not_false_eq_true, if_true]; rfl
  · have h' : ¬ b.kind = a.kind := fun e => h e.symm
    simp only [h, h', not_false_eq_true, if_true]
    exact ordM_neg _ _
theorem wrap_u64d {n : Int} (h : I64 n) : IntKind.u64.wrap n = if n < 0 then n + 18446744073709551616 else n := by
  obtain ⟨h1, h2⟩ := h
  simp only [IntKind.wrap, IntKind.bits, IntKind.signed, Bool.false_and, Bool.false_eq_true, if_false]
  split <;> omega
/-! ### the engine -/
theorem w191 {h : List AO} {a b : Bool} {K : ARes → List AO → Prop} (k : K (.ok (.int .i64 (if a = true then -1 else if b = true then 1 else 0))) h) : W 191 [.bool a, .bool b] h K := by
  refine W_of mixed c191 (by simp [A191]) ?_
  cases a <;> cases b <;> simp [A191] at k ⊢ <;> exact .inl k
theorem w157 {h : List AO} {x : Int} {K : ARes → List AO → Prop} (k : K (.ok (.bool (decide (x = 1 ∨ x = 2 ∨ x = 3 ∨ x = 6 ∨ x = 4)))) h) : W 157 [.int .i64 x] h K := by
  refine W_of mixed c157 (by simp [A157]) ?_
  by_cases c6 : x = 6
  · by_cases a1 : 1 ≤ x
    · by_cases a2 : x ≤ 4
      · omega
      · simp [A157, c6] at k ⊢; exact .inl k
    · omega
  · by_cases a1 : 1 ≤ x
    · by_cases a2 : x ≤ 4
      · have e : (x = 1 ∨ x = 2 ∨ x = 3 ∨ x = 6 ∨ x = 4) = True := by simp; omega
        simp only [e, decide_true] at k
        simp [A157, c6, a1, a2]; exact .inl k
      · have e : (x = 1 ∨ x = 2 ∨ x = 3 ∨ x = 6 ∨ x = 4) = False := by simp; omega
        simp only [e, decide_false] at k
        simp [A157, c6, a1, a2]; exact .inl k
    · have e : (x = 1 ∨ x = 2 ∨ x = 3 ∨ x = 6 ∨ x = 4) = False := by simp; omega
      simp only [e, decide_false] at k
      simp [A157, c6, a1]; exact .inl k
theorem w158 {h : List AO} {a b : Val} {K : ARes → List AO → Prop} (ha : a.ok) (hb : b.ok) (k : K (.ok (.int .i64 (cmpM a b))) h) : W 158 [.agg (vcells a), .agg (vcells b)] h K := by
  refine W_of mixed c158 (by simp [A158]) ?_
  have ord : ∀ x y : Int, (if decide (x < y) = true then (-1 : Int) else if decide (y < x) = true then 1 else 0) = ordM x y := by
    intro x y; unfold ordM; simp
  unfold cmpM at k
  by_cases h : a.kind = b.kind
  · simp [A158, h]
    refine w157 ?_
    rw [h] at k
    simp only [not_true_eq_false, if_false] at k
    by_cases hk : b.kind = 1 ∨ b.kind = 2 ∨ b.kind = 3 ∨ b.kind = 6 ∨ b.kind = 4
    · simp only [hk, not_true_eq_false, if_false] at k
      simp only [hk, decide_true]
      by_cases h4 : b.kind = 4
      · simp only [h4, if_true] at k
        rw [compare_less] at k
        simp [h, h4]
        refine w191 ?_
        simp
        refine ret_pure (by simp) ?_
        simp only [toList_eq]
        cases e1 : Op.bytesLess a.text.data.toList b.text.data.toList with
        | true => simp [e1] at k ⊢; exact k
        | false =>
          have e3 : decide (a.text.data.toList = b.text.data.toList) = decide (a.text = b.text) := by
            rw [decide_eq_decide]
            exact ⟨fun e => Go.WideShapes.bytes_inj e, fun e => by rw [e]⟩
          rw [e1, e3] at k
          by_cases e2 : a.text = b.text
          · simp [e2] at k ⊢; exact k
          · simp [e2] at k ⊢; exact k
      · simp only [h4, if_false] at k
        by_cases h3 : b.kind = 3
        · simp only [h3, if_true] at k
          obtain ⟨_, ia, _⟩ := Val.parts ha
          obtain ⟨_, ib, _⟩ := Val.parts hb
          rw [wrap_u64d ia, wrap_u64d ib] at k
          unfold I64 at ia ib
          by_cases na : a.num < 0
          · by_cases nb : b.num < 0
            · simp [h, h3, na, nb]
              refine w191 ?_
              simp
              refine ret_pure (by simp) ?_
              simpa [ordM, na, nb] using k
            · simp [h, h3, na, nb]
              refine w191 ?_
              simp
              refine ret_pure (by simp) ?_
              have e1 : ¬ a.num + 18446744073709551616 < b.num := by omega
              have e2 : b.num < a.num + 18446744073709551616 := by omega
              simpa [ordM, na, nb, e1, e2] using k
          · by_cases nb : b.num < 0
            · simp [h, h3, na, nb]
              refine w191 ?_
              simp
              refine ret_pure (by simp) ?_
              have e1 : a.num < b.num + 18446744073709551616 := by omega
              simpa [ordM, na, nb, e1] using k
            · simp [h, h3, na, nb]
              refine w191 ?_
              simp
              refine ret_pure (by simp) ?_
              simpa [ordM, na, nb] using k
        · simp only [h3, if_false] at k
          simp [h, h3, h4]
          refine w191 ?_
          simp
          refine ret_pure (by simp) ?_
          simpa [ordM] using k
    · simp only [hk, not_false_eq_true, if_true] at k
      simp only [hk, decide_false]
      simp [h]
      refine w191 ?_
      simp
      exact ret_pure (by simp) k
  · simp only [h, not_false_eq_true, if_true] at k
    simp [A158, h]
    refine w191 ?_
    simp
    refine ret_pure (by simp) ?_
    simpa [ordM] using k
end Go.Proofs.YtjljhmeadfejhaaGreat
