/- The words of the language: both sides tell the same; ParseWords, about the engine. -/
import Derived.Test.YtjljhmeadfejhaaP0
set_option maxRecDepth 100000
set_option linter.unusedVariables false
set_option linter.unusedSimpArgs false
namespace Go.Proofs.Ytjljhmeadfejhaa
open Go.Eng
def wordsB : List UInt8 := [32, 115, 116, 114, 117, 99, 116, 32, 117, 110, 105, 111, 110, 32, 101, 110, 117, 109, 32, 115, 101, 114, 118, 105, 99, 101, 32, 98, 111, 111, 108, 32, 105, 110, 116, 32, 117, 105, 110, 116, 32, 116, 101, 120, 116, 32, 98, 121, 116, 101, 115, 32, 108, 105, 115, 116, 32, 109, 97, 112, 32, 111, 110, 101, 119, 97, 121, 32]
def kwB : List (List UInt8) := [[115, 116, 114, 117, 99, 116], [117, 110, 105, 111, 110], [101, 110, 117, 109], [115, 101, 114, 118, 105, 99, 101], [98, 111, 111, 108], [105, 110, 116], [117, 105, 110, 116], [116, 101, 120, 116], [98, 121, 116, 101, 115], [108, 105, 115, 116], [109, 97, 112], [111, 110, 101, 119, 97, 121]]
def kwL : List ByteArray := [⟨#[115, 116, 114, 117, 99, 116]⟩, ⟨#[117, 110, 105, 111, 110]⟩, ⟨#[101, 110, 117, 109]⟩, ⟨#[115, 101, 114, 118, 105, 99, 101]⟩, ⟨#[98, 111, 111, 108]⟩, ⟨#[105, 110, 116]⟩, ⟨#[117, 105, 110, 116]⟩, ⟨#[116, 101, 120, 116]⟩, ⟨#[98, 121, 116, 101, 115]⟩, ⟨#[108, 105, 115, 116]⟩, ⟨#[109, 97, 112]⟩, ⟨#[111, 110, 101, 119, 97, 121]⟩]
def wordM (s : ByteArray) : Bool := kwL.any fun k => decide (k = s)
theorem contains_iff : ∀ (s sub : List UInt8), Lib.contains s sub = true ↔ ∃ i, sub.isPrefixOf (s.drop i) = true
  | [], sub => by
    simp only [Lib.contains, Lib.index, List.drop_nil, exists_const]
    cases sub <;> simp
  | b :: l, sub => by
    have ih := contains_iff l sub
    simp only [Lib.contains, decide_eq_true_eq] at ih ⊢
    have ge := Lib.index_ge l sub
    unfold Lib.index
    by_cases h : sub.isPrefixOf (b :: l) = true
    · rw [if_pos h]
      exact ⟨fun _ => ⟨0, h⟩, fun _ => by omega⟩
    · rw [if_neg h]
      by_cases h2 : Lib.index l sub = -1
      · rw [h2] at ih
        simp only [h2, beq_self_eq_true, if_true]
        refine ⟨fun e => by omega, fun ⟨i, hi⟩ => ?_⟩
        cases i with
        | zero => exact absurd hi h
        | succ i => exact ih.2 ⟨i, hi⟩
      · have h3 : (Lib.index l sub == -1) = false := by simpa using h2
        simp only [h3, Bool.false_eq_true, if_false]
        refine ⟨fun _ => ?_, fun _ => by omega⟩
        obtain ⟨i, hi⟩ := ih.1 (by omega)
        exact ⟨i + 1, hi⟩
theorem pre_take : ∀ (l r : List UInt8), (∀ c ∈ l, c ≠ 32) → (l ++ [32]).isPrefixOf r = true → r.takeWhile (fun c => decide (c ≠ 32)) = l
  | [], r, _, h => by
    cases r with
    | nil => simp at h
    | cons c r => simp at h; subst h; simp
  | x :: l, r, hn, h => by
    cases r with
    | nil => simp at h
    | cons c r =>
      simp only [List.cons_append, List.isPrefixOf, Bool.and_eq_true, beq_iff_eq] at h
      obtain ⟨rfl, h⟩ := h
      have hx : x ≠ 32 := hn x List.mem_cons_self
      rw [List.takeWhile_cons_of_pos (by simpa using hx), pre_take l r (fun c hc => hn c (List.mem_cons_of_mem _ hc)) h]
def tailW (r : List UInt8) : List UInt8 := match r with
  | 32 :: r => r.takeWhile (fun c => decide (c ≠ 32))
  | _ => []
theorem tails_ok : (List.range 75).all (fun i => ([] :: kwB).contains (tailW (wordsB.drop i))) = true := by kernel_rfl
theorem words_ok : kwB.all (fun k => Lib.contains wordsB (32 :: (k ++ [32])) && !k.contains 32 && !k.isEmpty) = true := by kernel_rfl
theorem word_law (l : List UInt8) (hne : l ≠ []) (hn : ∀ c ∈ l, c ≠ 32) : Lib.contains wordsB (32 :: (l ++ [32])) = kwB.contains l := by
  rw [Bool.eq_iff_iff]
  constructor
  · intro h
    obtain ⟨i, hi⟩ := (contains_iff _ _).1 h
    have hlt : i < 75 := by
      rcases Nat.lt_or_ge i 75 with h | h
      · exact h
      · rw [List.drop_eq_nil_of_le (by have : wordsB.length = 68 := by kernel_rfl
                                       omega)] at hi
        simp at hi
    have ht := (List.all_eq_true.1 tails_ok) i (by simpa using hlt)
    cases hd : wordsB.drop i with
    | nil => rw [hd] at hi; simp at hi
    | cons c r =>
      rw [hd] at hi ht
      simp only [List.isPrefixOf, Bool.and_eq_true, beq_iff_eq] at hi
      obtain ⟨rfl, hi⟩ := hi
      rw [show tailW (32 :: r) = r.takeWhile (fun c => decide (c ≠ 32)) from rfl, pre_take l r hn hi] at ht
      simp only [List.contains_cons, Bool.or_eq_true, beq_iff_eq] at ht
      rcases ht with ht | ht
      · exact absurd ht hne
      · exact ht
  · intro h
    have := (List.all_eq_true.1 words_ok) l (by simpa using h)
    simp only [Bool.and_eq_true] at this
    exact this.1.1
theorem idx_space (l : List UInt8) : decide (0 ≤ Lib.indexByte l 32) = l.contains 32 := by
  induction l with
  | nil => rfl
  | cons b l ih =>
    have ge := Lib.indexByte_ge l 32
    unfold Lib.indexByte
    by_cases h : b = 32
    · simp [h]
    · have hb : (b == 32) = false := by simpa using h
      have hc : (32 == b) = false := by simpa using fun e : (32 : UInt8) = b => h e.symm
      simp only [hb, Bool.false_eq_true, if_false, List.contains_cons, hc, Bool.false_or]
      rw [← ih]
      by_cases h2 : Lib.indexByte l 32 = -1
      · simp [h2]
      · have h3 : (Lib.indexByte l 32 == -1) = false := by simpa using h2
        simp only [h3, Bool.false_eq_true, if_false]
        rw [decide_eq_decide]
        omega
theorem wordM_eq (s : ByteArray) : wordM s = kwB.contains s.data.toList := by
  have e : ∀ k : ByteArray, decide (k = s) = (s.data.toList == k.data.toList) := by
    intro k
    rw [Bool.eq_iff_iff, decide_eq_true_eq, beq_iff_eq]
    constructor
    · rintro rfl; rfl
    · intro h
      cases k; cases s
      simp only at h
      rw [Array.toList_inj] at h
      rw [h]
  have hk : kwB = kwL.map fun k => k.data.toList := rfl
  rw [hk]
  unfold wordM
  generalize kwL = L
  induction L with
  | nil => rfl
  | cons k L ih => rw [List.any_cons, ih, e, List.map_cons, List.contains_cons]
theorem wordM_law (s : ByteArray) (hne : s ≠ ⟨#[]⟩) : (!decide (0 ≤ Lib.indexByte s.data.toList 32) && Lib.contains wordsB (32 :: (s.data.toList ++ [32]))) = wordM s := by
  rw [idx_space, wordM_eq]
  have hl : s.data.toList ≠ [] := by
    intro h; cases s; simp at h; subst h; exact hne rfl
  cases hc : s.data.toList.contains 32 with
  | false =>
    rw [word_law _ hl (fun c hc' e => by subst e; rw [List.contains_iff_mem.2 hc'] at hc; cases hc)]
    rfl
  | true =>
    simp only [Bool.not_true, Bool.false_and]
    symm
    cases hk : kwB.contains s.data.toList with
    | false => rfl
    | true =>
      have := (List.all_eq_true.1 words_ok) _ (List.contains_iff_mem.1 hk)
      simp only [Bool.and_eq_true, Bool.not_eq_true'] at this
      rw [this.1.2] at hc; cases hc
theorem wordM_nil : wordM ⟨#[]⟩ = false := by kernel_rfl

theorem w28 {h : List AO} {s : ByteArray} {K : ARes → List AO → Prop} (hs : s.size ≤ 1152921504606846976) (k : K (.ok (.bool (wordM s))) h) : W 28 [.str s] h K := by
  refine W_of mixed c28 (by simp [A28]) ?_
  by_cases hne : s = ⟨#[]⟩
  · subst hne
    rw [wordM_nil] at k
    simp [A28]
    exact .inl k
  · have law := wordM_law s hne
    simp [A28, hne]
    refine w46_one ?_
    cases hb : decide (0 ≤ Lib.indexByte s.data.toList 32) with
    | true =>
      rw [hb] at law
      simp at law
      simp
      rw [law] at k
      exact .inl k
    | false =>
      rw [hb] at law
      have hz : ByteArray.size ⟨#[32]⟩ = 1 := rfl
      have h1 : ByteArray.size ⟨#[32]⟩ + s.size ≤ 9223372036854775807 := by omega
      have h2 : ByteArray.size ⟨#[32]⟩ + s.size + ByteArray.size ⟨#[32]⟩ ≤ 9223372036854775807 := by omega
      simp [h1, h2]
      refine w46 ?_ ?_
      · decide
      have e : (ByteArray.mk #[32] ++ s ++ ByteArray.mk #[32]).data.toList = 32 :: (s.data.toList ++ [32]) := by
        simp [ByteArray.append, ByteArray.data_append]
      rw [e]
      rw [show (ByteArray.mk _).data.toList = wordsB from rfl]
      simp only [Bool.not_false, Bool.true_and] at law
      rw [law]
      simp
      exact .inl k

theorem w29 {h : List AO} {s : ByteArray} {K : ARes → List AO → Prop} (k : K (.ok (.bool (wordM s))) h) : W 29 [.str s] h K := by
  refine W_of mixed c29 (by simp [A29]) ?_
  obtain ⟨L, hL⟩ : ∃ L, L = kwL := ⟨_, rfl⟩
  have hlen : L.length = 12 := by rw [hL]; rfl
  simp [A29]
  refine lp_for 12 (fun i => L.any (fun k => decide (k = s)) = (L.drop i).any fun k => decide (k = s)) (fun i _ => [(0, .str s), (3, .rsl (L.map .str)), (4, .int .i64 (i : Int))]) (fun _ => h) ?_ (by simp) (by rw [hL]; rfl) rfl
  intro i hi hs ih
  have hw := wrap_succ (i := i) (by omega)
  by_cases hlt : i < 12
  · have hl : i < L.length := by omega
    rw [List.drop_eq_getElem_cons hl, List.any_cons] at hs
    have h2 : (i : Int) < 12 := by omega
    simp at ih
    by_cases he : L[i] = s
    · simp [uf A29_l0.eq_1, hlen, hl, hlt, h2, he]
      unfold wordM at k
      rw [← hL, hs] at k
      simp [he] at k
      exact .inl k
    · simp [uf A29_l0.eq_1, hlen, hl, hlt, h2, he, hw]
      simp only [he, decide_false, Bool.false_or] at hs
      exact ih (by omega) hs
  · have : L.drop i = [] := List.drop_eq_nil_of_le (by omega)
    rw [this, List.any_nil] at hs
    have h2 : ¬ (i : Int) < 12 := by omega
    simp [uf A29_l0.eq_1, uf A29_r0.eq_1, hlen, hlt, h2]
    unfold wordM at k
    rw [← hL, hs] at k
    exact .inl k

theorem w8 {h : List AO} {s : ByteArray} {K : ARes → List AO → Prop} (hs : s.size ≤ 1152921504606846976) (k : K (.ok (.bool true)) h) : W 8 [.str s] h K := by
  refine W_of mixed c8 (by simp [A8]) ?_
  simp [A8]
  refine w28 hs ?_
  simp
  refine w29 ?_
  simp
  refine w30 ?_
  simp
  exact .inl k
end Go.Proofs.Ytjljhmeadfejhaa
