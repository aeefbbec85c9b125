/- How keys stand, about the engine; ValueSame. -/
import Derived.Test.YtjljhmeadfejhaaDoorT1
set_option maxRecDepth 100000
set_option linter.unusedVariables false
set_option linter.unusedSimpArgs false
namespace Go.Proofs.YtjljhmeadfejhaaDoor
open Go.Eng
/-! ### plain -/
def ordM (x y : Int) : Int := if x < y then -1 else if y < x then 1 else 0
theorem ordM_neg (x y : Int) : ordM x y = - ordM y x := by
  unfold ordM
  split <;> split <;> (try split) <;> (try split) <;> omega
theorem compare_neg : ∀ x y : List UInt8, Lib.compareBytes x y = - Lib.compareBytes y x
  | [], [] => rfl
  | [], _ :: _ => rfl
  | _ :: _, [] => rfl
  | a :: x, b :: y => by
    have ih := compare_neg x y
    unfold Lib.compareBytes
    by_cases h1 : a < b
    · have h2 : ¬ b < a := by rw [UInt8.lt_iff_toNat_lt] at *; omega
      simp [h1, h2]
    · by_cases h2 : b < a
      · simp [h1, h2]
      · simp [h1, h2, ih]
theorem u8_eq {a b : UInt8} (h1 : ¬ a < b) (h2 : ¬ b < a) : a = b := by
  rw [UInt8.lt_iff_toNat_lt] at h1 h2
  exact UInt8.toNat_inj.1 (by omega)
theorem compare_less : ∀ x y : List UInt8, Lib.compareBytes x y = (if Op.bytesLess x y = true then -1 else if (Op.bytesLess x y || decide (x = y)) = true then 0 else 1)
  | [], [] => by simp [Lib.compareBytes, Op.bytesLess]
  | [], _ :: _ => by simp [Lib.compareBytes, Op.bytesLess]
  | _ :: _, [] => by simp [Lib.compareBytes, Op.bytesLess]
  | a :: x, b :: y => by
    have ih := compare_less x y
    unfold Lib.compareBytes Op.bytesLess
    by_cases h1 : a < b
    · simp [h1]
    · by_cases h2 : b < a
      · have h3 : ¬ a = b := by intro e; subst e; rw [UInt8.lt_iff_toNat_lt] at h2; omega
        have h4 : (a == b) = false := by simpa using h3
        simp [h1, h2, h3, h4]
      · have h3 := u8_eq h1 h2
        subst h3
        simp [h1, ih]
theorem toList_eq (s : ByteArray) : s.toList = s.data.toList := ByteArray.toList_eq s
def cmpM (a b : Val) : Int :=
  if ¬ a.kind = b.kind then ordM a.kind b.kind
  else if ¬ (a.kind = 1 ∨ a.kind = 2 ∨ a.kind = 3 ∨ a.kind = 6 ∨ a.kind = 4) then 0
  else if a.kind = 4 then Lib.compareBytes a.text.data.toList b.text.data.toList
  else if a.kind = 3 then ordM (IntKind.u64.wrap a.num) (IntKind.u64.wrap b.num) else ordM a.num b.num
theorem cmpM_neg (a b : Val) : cmpM a b = - cmpM b a := by
  unfold cmpM
  by_cases h : a.kind = b.kind
  · have h' : b.kind = a.kind := h.symm
    simp only [h', not_true_eq_false, if_false]
    by_cases hk : a.kind = 1 ∨ a.kind = 2 ∨ a.kind = 3 ∨ a.kind = 6 ∨ a.kind = 4
    · simp only [hk, not_true_eq_false, if_false]
      by_cases h4 : a.kind = 4
      · simp only [h4, if_true]; exact compare_neg _ _
      · simp only [h4, if_false]
        by_cases h3 : a.kind = 3
        · simp only [h3, if_true]; exact ordM_neg _ _
        · simp only [h3, if_false]; exact ordM_neg _ _
    · simp only [hk, not_false_eq_true, if_true]; rfl
  · have h' : ¬ b.kind = a.kind := fun e => h e.symm
    simp only [h, h', not_false_eq_true, if_true]
    exact ordM_neg _ _
theorem wrap_u64 {n : Int} (h : I64 n) : IntKind.u64.wrap n = if n < 0 then n + 18446744073709551616 else n := by
  obtain ⟨h1, h2⟩ := h
  simp only [IntKind.wrap, IntKind.bits, IntKind.signed, Bool.false_and, Bool.false_eq_true, if_false]
  split <;> omega
/-! ### the engine -/
theorem w75 {h : List AO} {x : Int} {K : ARes → List AO → Prop} (k : K (.ok (.bool false)) h) : W 75 [.int .i64 x] h K := by
  refine W_of mixed c75 (by simp [A75]) ?_
  simp [A75]
  exact .inl k
theorem w77 {h : List AO} {x : Int} {K : ARes → List AO → Prop} (k : K (.ok (.bool false)) h) : W 77 [.int .u64 x] h K := by
  refine W_of mixed c77 (by simp [A77]) ?_
  simp [A77]
  exact .inl k
theorem w78 {h : List AO} {x : Int} {K : ARes → List AO → Prop} (k : K (.ok (.bool false)) h) : W 78 [.int .i64 x] h K := by
  refine W_of mixed c78 (by simp [A78]) ?_
  simp [A78]
  exact .inl k
theorem w46 {h : List AO} {x y : Int} {K : ARes → List AO → Prop} (k : K (.ok (.int .i64 (ordM x y))) h) : W 46 [.int .i64 x, .int .i64 y] h K := by
  refine W_of mixed c46 (by simp [A46]) ?_
  unfold ordM at k
  simp [A46]
  refine w75 ?_
  simp
  refine w75 ?_
  by_cases h1 : x < y
  · simp [h1] at k ⊢; exact .inl k
  · by_cases h2 : y < x
    · simp [h1, h2] at k ⊢; exact .inl k
    · simp [h1, h2] at k ⊢; exact .inl k
theorem w49 {h : List AO} {x y : Int} {K : ARes → List AO → Prop} (k : K (.ok (.int .i64 (ordM x y))) h) : W 49 [.int .u64 x, .int .u64 y] h K := by
  refine W_of mixed c49 (by simp [A49]) ?_
  unfold ordM at k
  simp [A49]
  refine w77 ?_
  simp
  refine w77 ?_
  by_cases h1 : x < y
  · simp [h1] at k ⊢; exact .inl k
  · by_cases h2 : y < x
    · simp [h1, h2] at k ⊢; exact .inl k
    · simp [h1, h2] at k ⊢; exact .inl k
theorem w50 {h : List AO} {x y : Int} {K : ARes → List AO → Prop} (k : K (.ok (.int .i64 (ordM x y))) h) : W 50 [.int .i64 x, .int .i64 y] h K := by
  refine W_of mixed c50 (by simp [A50]) ?_
  unfold ordM at k
  simp [A50]
  refine w78 ?_
  simp
  refine w78 ?_
  by_cases h1 : x < y
  · simp [h1] at k ⊢; exact .inl k
  · by_cases h2 : y < x
    · simp [h1, h2] at k ⊢; exact .inl k
    · simp [h1, h2] at k ⊢; exact .inl k
theorem w51 {h : List AO} {a b : Bool} {K : ARes → List AO → Prop} (k : K (.ok (.int .i64 (if a = true then -1 else if b = true then 1 else 0))) h) : W 51 [.bool a, .bool b] h K := by
  refine W_of mixed c51 (by simp [A51]) ?_
  cases a <;> cases b <;> simp [A51] at k ⊢ <;> exact .inl k
theorem w47 {h : List AO} {x : Int} {K : ARes → List AO → Prop} (k : K (.ok (.bool (decide (x = 1 ∨ x = 2 ∨ x = 3 ∨ x = 6 ∨ x = 4)))) h) : W 47 [.int .i64 x] h K := by
  refine W_of mixed c47 (by simp [A47]) ?_
  by_cases c1 : x = 1
  · simp [A47, c1] at k ⊢; exact .inl k
  by_cases c2 : x = 2
  · simp [A47, c2] at k ⊢; exact .inl k
  by_cases c3 : x = 3
  · simp [A47, c3] at k ⊢; exact .inl k
  by_cases c6 : x = 6
  · simp [A47, c6] at k ⊢; exact .inl k
  by_cases c4 : x = 4
  · simp [A47, c4] at k ⊢; exact .inl k
  simp [A47, c1, c2, c3, c4, c6] at k ⊢; exact .inl k
theorem w23 {h : List AO} {x : Int} {K : ARes → List AO → Prop} (k : K (.ok (.bool (decide (x = 1 ∨ x = 2 ∨ x = 3 ∨ x = 6 ∨ x = 4)))) h) : W 23 [.int .i64 x] h K := by
  refine W_of mixed c23 (by simp [A23]) ?_
  by_cases c6 : x = 6
  · by_cases a1 : 1 ≤ x
    · by_cases a2 : x ≤ 4
      · omega
      · simp [A23, c6] at k ⊢; exact .inl k
    · omega
  · by_cases a1 : 1 ≤ x
    · by_cases a2 : x ≤ 4
      · have e : (x = 1 ∨ x = 2 ∨ x = 3 ∨ x = 6 ∨ x = 4) = True := by simp; omega
        simp only [e, decide_true] at k
        simp [A23, c6, a1, a2]; exact .inl k
      · have e : (x = 1 ∨ x = 2 ∨ x = 3 ∨ x = 6 ∨ x = 4) = False := by simp; omega
        simp only [e, decide_false] at k
        simp [A23, c6, a1, a2]; exact .inl k
    · have e : (x = 1 ∨ x = 2 ∨ x = 3 ∨ x = 6 ∨ x = 4) = False := by simp; omega
      simp only [e, decide_false] at k
      simp [A23, c6, a1]; exact .inl k
theorem w48 {h : List AO} {a b : ByteArray} {K : ARes → List AO → Prop} (k : K (.ok (.int .i64 (Lib.compareBytes a.data.toList b.data.toList))) h) : W 48 [.str a, .str b] h K := by
  refine WC_same (v := .int .i64 (Lib.compareBytes a.data.toList b.data.toList)) (fun φ w S vs V R => ?_) k
  rw [rels_str2 R]
  exact ⟨_, ⟨Tryd.call48 _ w, Tryd.strings_Compare a b w⟩, .int true _ _⟩

theorem w21 {h : List AO} {a b : Val} {K : ARes → List AO → Prop} (k : K (.ok (.int .i64 (cmpM a b))) h) : W 21 [.agg (vcells a), .agg (vcells b)] h K := by
  refine W_of mixed c21 (by simp [A21]) ?_
  unfold cmpM at k
  by_cases h : a.kind = b.kind
  · simp [A21, h]
    refine w47 ?_
    rw [h] at k
    simp only [not_true_eq_false, if_false] at k
    by_cases hk : b.kind = 1 ∨ b.kind = 2 ∨ b.kind = 3 ∨ b.kind = 6 ∨ b.kind = 4
    · simp only [hk, not_true_eq_false, if_false] at k
      simp only [hk, decide_true]
      by_cases h4 : b.kind = 4
      · simp only [h4, if_true] at k
        simp [h, h4]
        refine w48 ?_
        simp
        exact ret_pure (by simp) k
      · simp only [h4, if_false] at k
        by_cases h3 : b.kind = 3
        · simp only [h3, if_true] at k
          simp [h, h3]
          refine w49 ?_
          simp
          exact ret_pure (by simp) k
        · simp only [h3, if_false] at k
          simp [h, h3, h4]
          refine w50 ?_
          simp
          exact ret_pure (by simp) k
    · simp only [hk, not_false_eq_true, if_true] at k
      simp only [hk, decide_false]
      simp
      exact ret_pure (by simp) k
  · simp only [h, not_false_eq_true, if_true] at k
    simp [A21, h]
    refine w46 ?_
    simp
    exact ret_pure (by simp) k

theorem w22 {h : List AO} {a b : Val} {K : ARes → List AO → Prop} (ha : a.ok) (hb : b.ok) (k : K (.ok (.int .i64 (cmpM a b))) h) : W 22 [.agg (vcells a), .agg (vcells b)] h K := by
  refine W_of mixed c22 (by simp [A22]) ?_
  have ord : ∀ x y : Int, (if decide (x < y) = true then (-1 : Int) else if decide (y < x) = true then 1 else 0) = ordM x y := by
    intro x y; unfold ordM; simp
  unfold cmpM at k
  by_cases h : a.kind = b.kind
  · simp [A22, h]
    refine w23 ?_
    rw [h] at k
    simp only [not_true_eq_false, if_false] at k
    by_cases hk : b.kind = 1 ∨ b.kind = 2 ∨ b.kind = 3 ∨ b.kind = 6 ∨ b.kind = 4
    · simp only [hk, not_true_eq_false, if_false] at k
      simp only [hk, decide_true]
      by_cases h4 : b.kind = 4
      · simp only [h4, if_true] at k
        rw [compare_less] at k
        simp [h, h4]
        refine w51 ?_
        simp
        refine ret_pure (by simp) ?_
        simp only [toList_eq]
        cases e1 : Op.bytesLess a.text.data.toList b.text.data.toList with
        | true => simp [e1] at k ⊢; exact k
        | false =>
          have e3 : decide (a.text.data.toList = b.text.data.toList) = decide (a.text = b.text) := by
            rw [decide_eq_decide]
            exact ⟨fun e => Go.WideShapes.bytes_inj e, fun e => by rw [e]⟩
          rw [e1, e3] at k
          by_cases e2 : a.text = b.text
          · simp [e2] at k ⊢; exact k
          · simp [e2] at k ⊢; exact k
      · simp only [h4, if_false] at k
        by_cases h3 : b.kind = 3
        · simp only [h3, if_true] at k
          obtain ⟨_, ia, _⟩ := Val.parts ha
          obtain ⟨_, ib, _⟩ := Val.parts hb
          rw [wrap_u64 ia, wrap_u64 ib] at k
          unfold I64 at ia ib
          by_cases na : a.num < 0
          · by_cases nb : b.num < 0
            · simp [h, h3, na, nb]
              refine w51 ?_
              simp
              refine ret_pure (by simp) ?_
              simpa [ordM, na, nb] using k
            · simp [h, h3, na, nb]
              refine w51 ?_
              simp
              refine ret_pure (by simp) ?_
              have e1 : ¬ a.num + 18446744073709551616 < b.num := by omega
              have e2 : b.num < a.num + 18446744073709551616 := by omega
              simpa [ordM, na, nb, e1, e2] using k
          · by_cases nb : b.num < 0
            · simp [h, h3, na, nb]
              refine w51 ?_
              simp
              refine ret_pure (by simp) ?_
              have e1 : a.num < b.num + 18446744073709551616 := by omega
              simpa [ordM, na, nb, e1] using k
            · simp [h, h3, na, nb]
              refine w51 ?_
              simp
              refine ret_pure (by simp) ?_
              simpa [ordM, na, nb] using k
        · simp only [h3, if_false] at k
          simp [h, h3, h4]
          refine w51 ?_
          simp
          refine ret_pure (by simp) ?_
          simpa [ordM] using k
    · simp only [hk, not_false_eq_true, if_true] at k
      simp only [hk, decide_false]
      simp [h]
      refine w51 ?_
      simp
      exact ret_pure (by simp) k
  · simp only [h, not_false_eq_true, if_true] at k
    simp [A22, h]
    refine w51 ?_
    simp
    refine ret_pure (by simp) ?_
    simpa [ordM] using k
end Go.Proofs.YtjljhmeadfejhaaDoor
