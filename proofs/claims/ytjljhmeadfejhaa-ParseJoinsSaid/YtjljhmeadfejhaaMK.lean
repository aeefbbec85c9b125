/- YtjljhmeadfejhaaMK: texts of this claim, merged. -/
import Derived.Test.YtjljhmeadfejhaaMJ
/- The lexer's small functions, about the engine. -/
set_option maxRecDepth 100000
set_option linter.unusedVariables false
set_option linter.unusedSimpArgs false
namespace Go.Proofs.Ytjljhmeadfejhaa
open Go.Eng
def letterB (c : UInt8) : Bool := (decide (97 ≤ c.toNat) && decide (c.toNat ≤ 122)) || (decide (65 ≤ c.toNat) && decide (c.toNat ≤ 90))
def digitB (c : UInt8) : Bool := decide (48 ≤ c.toNat) && decide (c.toNat ≤ 57)
def innerB (c : UInt8) : Bool := letterB c || digitB c || decide (c.toNat = 95)
def noteB (c : UInt8) : Bool := decide (¬ c.toNat = 10)
theorem i97 (c : UInt8) : ((97 : Int) ≤ (c.toNat : Int)) = (97 ≤ c.toNat) := by apply propext; omega
theorem i65 (c : UInt8) : ((65 : Int) ≤ (c.toNat : Int)) = (65 ≤ c.toNat) := by apply propext; omega
theorem i48 (c : UInt8) : ((48 : Int) ≤ (c.toNat : Int)) = (48 ≤ c.toNat) := by apply propext; omega
theorem i122 (c : UInt8) : ((c.toNat : Int) ≤ 122) = (c.toNat ≤ 122) := by apply propext; omega
theorem i90 (c : UInt8) : ((c.toNat : Int) ≤ 90) = (c.toNat ≤ 90) := by apply propext; omega
theorem i57 (c : UInt8) : ((c.toNat : Int) ≤ 57) = (c.toNat ≤ 57) := by apply propext; omega
theorem i10 (c : UInt8) : ((c.toNat : Int) = 10) = (c.toNat = 10) := by apply propext; omega
theorem i95 (c : UInt8) : ((c.toNat : Int) = 95) = (c.toNat = 95) := by apply propext; omega
section
variable {H : List AO} {K : ARes → List AO → Prop}
theorem w88 {c : UInt8} (k : K (.ok (.bool (letterB c))) H) : W 88 [.int .u8 c.toNat] H K := by
  refine W_of mixed c88 (by simp [A88]) ?_
  unfold letterB at k
  by_cases h1 : 97 ≤ c.toNat <;> by_cases h2 : c.toNat ≤ 122 <;> by_cases h3 : 65 ≤ c.toNat <;> by_cases h4 : c.toNat ≤ 90
  all_goals
    simp [h1, h2, h3, h4] at k
    simp [A88, i97, i122, i65, i90, h1, h2, h3, h4]
    exact .inl k
theorem w90 {c : UInt8} (k : K (.ok (.bool (digitB c))) H) : W 90 [.int .u8 c.toNat] H K := by
  refine W_of mixed c90 (by simp [A90]) ?_
  unfold digitB at k
  by_cases h1 : 48 ≤ c.toNat <;> by_cases h2 : c.toNat ≤ 57
  all_goals
    simp [h1, h2] at k
    simp [A90, i48, i57, h1, h2]
    exact .inl k
theorem w112 {c : UInt8} (k : K (.ok (.bool (noteB c))) H) : W 112 [.int .u8 c.toNat] H K := by
  refine W_of mixed c112 (by simp [A112]) ?_
  unfold noteB at k
  by_cases h1 : c.toNat = 10
  all_goals
    simp [h1] at k
    simp [A112, i10, h1]
    exact .inl k
theorem w110 {c : UInt8} (k : K (.ok (.bool (innerB c))) H) : W 110 [.int .u8 c.toNat] H K := by
  refine W_of mixed c110 (by simp [A110]) ?_
  unfold innerB at k
  simp [A110]
  refine w88 ?_
  cases h1 : letterB c with
  | true =>
    simp [h1] at k ⊢
    exact .inl k
  | false =>
    simp [h1] at k ⊢
    refine w90 ?_
    cases h2 : digitB c with
    | true =>
      simp [h2] at k ⊢
      exact .inl k
    | false =>
      simp [h2, i95] at k ⊢
      exact .inl k
end
end Go.Proofs.Ytjljhmeadfejhaa

/- The lexer: bytes as long as something holds, about the engine. -/
set_option maxRecDepth 100000
set_option linter.unusedVariables false
set_option linter.unusedSimpArgs false
namespace Go.Proofs.Ytjljhmeadfejhaa
open Go.Eng
abbrev lB (s : ByteArray) (p : Nat) (O : AV) : AO := .box [.str s, .int .i64 (p : Int), O]
/-- What is left of a text. -/
def restB (s : ByteArray) (p : Nat) : List UInt8 := s.data.toList.drop p
theorem restB_cons {s : ByteArray} {p : Nat} (h : p < s.size) : restB s p = s.data[p]'h :: restB s (p + 1) := by
  have hl : p < s.data.toList.length := by simpa using h
  unfold restB
  rw [List.drop_eq_getElem_cons hl]
  simp
theorem restB_nil {s : ByteArray} {p : Nat} (h : s.size ≤ p) : restB s p = [] := List.drop_eq_nil_of_le (by simpa using h)
section
variable {H : List AO} {li : Nat} {s : ByteArray} {p : Nat} {O : AV} {K : ARes → List AO → Prop}
theorem lset_same (hl : H[li]? = some (lB s p O)) : H.set li (lB s p O) = H := by
  apply List.ext_getElem?
  intro i
  by_cases e : li = i
  · subst e; rw [List.getElem?_set_self (List.getElem?_eq_some_iff.1 hl).1, hl]
  · rw [List.getElem?_set_ne e]
theorem lget_set (hl : H[li]? = some (lB s p O)) (c : AO) : (H.set li c)[li]? = some c := by
  rw [List.getElem?_set_self (List.getElem?_eq_some_iff.1 hl).1]
theorem w109 {g : FuncId} {f : UInt8 → Bool} (hg : ∀ (c : UInt8) (H : List AO) (K : ARes → List AO → Prop), K (.ok (.bool (f c))) H → W g [.int .u8 c.toNat] H K)
    (hl : H[li]? = some (lB s p O)) (hp : p ≤ s.size) (hs : s.size < 100000)
    (k : K (.ok (.str (s.extract p (p + ((restB s p).takeWhile f).length)))) (H.set li (lB s (p + ((restB s p).takeWhile f).length) O))) : W 109 [.ptr li 0, .fn g [] []] H K := by
  refine W_of mixed c109 (by simp [A109]) ?_
  simp [A109, hl]
  obtain ⟨e, he⟩ : ∃ e, e = p + ((restB s p).takeWhile f).length := ⟨_, rfl⟩
  rw [← he] at k
  refine lp_indE (ι := Nat) (fun i => p ≤ i ∧ i ≤ s.size ∧ e = i + ((restB s i).takeWhile f).length) (fun i => s.size - i)
    (fun i => [(0, .ptr li 0), (1, .fn g [] []), (5, .int .i64 (p : Int))]) (fun i => H.set li (lB s i O)) ?_ p ⟨Nat.le_refl _, hp, he⟩ rfl (lset_same hl)
  intro i ⟨hpi, hi, hei⟩ ih
  have hw := wrap_succ (i := i) (by omega)
  have g1 := lget_set hl
  by_cases hlt : i < s.size
  · have hr := restB_cons hlt
    rw [hr] at hei
    simp [A109_l0, g1, hlt]
    refine ⟨_, _, hg _ _ _ ⟨rfl, rfl⟩, ?_⟩
    cases hf : f (s.data[i]'hlt) with
    | true =>
      simp [g1, hw]
      refine ih (i + 1) ⟨by omega, by omega, ?_⟩ (by omega)
      rw [hei, List.takeWhile_cons_of_pos (by exact hf)]
      simp; omega
    | false =>
      rw [List.takeWhile_cons_of_neg (by rw [hf]; decide)] at hei
      simp at hei
      subst hei
      simp [A109_r0, g1, hpi, hi]
      exact .inl k
  · have hei' : e = i := by rw [hei, restB_nil (by omega)]; simp
    subst hei'
    simp [A109_l0, A109_r0, g1, hlt, hpi, hi]
    exact .inl k
theorem w121 {t q : ByteArray} (k : K (.ok (.bool (decide (q.size ≤ t.size ∧ t.extract 0 q.size = q)))) H) : W 121 [.str t, .str q] H K := by
  refine W_of mixed c121 (by simp [A121]) ?_
  by_cases h1 : q.size ≤ t.size
  · by_cases h2 : t.extract 0 q.size = q
    · simp [h1, h2] at k
      simp [A121, h1, h2]
      exact .inl k
    · simp [h1, h2] at k
      simp [A121, h1, h2]
      exact .inl k
  · simp [h1] at k
    simp [A121, h1]
    exact .inl k
theorem w111 {t q : ByteArray} (k : K (.ok (.bool (decide (q.size ≤ t.size ∧ t.extract 0 q.size = q)))) H) : W 111 [.str t, .str q] H K := by
  refine W_of mixed c111 (by simp [A111]) ?_
  simp [A111]
  refine w121 ?_
  simp
  simp at k
  exact .inl k
end
end Go.Proofs.Ytjljhmeadfejhaa

/- The lexer: words, numbers, about the engine. -/
set_option maxRecDepth 100000
set_option linter.unusedVariables false
set_option linter.unusedSimpArgs false
namespace Go.Proofs.Ytjljhmeadfejhaa
open Go.Eng
def bA (l : List UInt8) : ByteArray := ⟨l.toArray⟩
theorem ext_bA {s : ByteArray} {p : Nat} (n : Nat) : s.extract p (p + n) = bA ((restB s p).take n) := by
  apply ByteArray.ext
  apply Array.ext'
  simp [bA, restB, ByteArray.data_extract, Array.toList_extract, List.extract]
theorem take_while (f : UInt8 → Bool) (l : List UInt8) : l.take (l.takeWhile f).length = l.takeWhile f := by
  induction l with
  | nil => rfl
  | cons c l ih =>
    cases h : f c with
    | true => rw [List.takeWhile_cons_of_pos h]; simp [ih]
    | false => rw [List.takeWhile_cons_of_neg (by rw [h]; decide)]; rfl
theorem ext_while (s : ByteArray) (p : Nat) (f : UInt8 → Bool) : s.extract p (p + ((restB s p).takeWhile f).length) = bA ((restB s p).takeWhile f) := by
  rw [ext_bA, take_while]
theorem bA_size (l : List UInt8) : (bA l).size = l.length := by simp [bA, ByteArray.size]
theorem rest_len (s : ByteArray) (p : Nat) : (restB s p).length = s.size - p := by simp [restB]
theorem while_len (f : UInt8 → Bool) (l : List UInt8) : (l.takeWhile f).length ≤ l.length := (List.takeWhile_prefix f).length_le
/-- The lexer's heap. -/
def lH (B : List AO) (s : ByteArray) (p : Nat) (toks : List Tok) : List AO := match toks with
  | [] => B ++ [lB s p .esl]
  | t :: ts => B ++ [lB s p (.osl (B.length + 1) ((t :: ts).map Tok.av)), .tok 93 4 (t :: ts).length]
def lO (B : List AO) (toks : List Tok) : AV := match toks with
  | [] => .esl
  | t :: ts => .osl (B.length + 1) ((t :: ts).map Tok.av)
section
variable {B : List AO} {s : ByteArray} {p : Nat} {toks : List Tok} {K : ARes → List AO → Prop}
theorem lH_get : (lH B s p toks)[B.length]? = some (lB s p (lO B toks)) := by
  cases toks <;> simp [lH, lO]
theorem lH_set (q : Nat) : (lH B s p toks).set B.length (lB s q (lO B toks)) = lH B s q toks := by
  cases toks <;> simp [lH, lO, List.set_append_right]
theorem w68 {kd nm e : Int} {w : ByteArray} (ht : toks.length < 1000000) (k : K (.ok (.tup [])) (lH B s p (toks ++ [⟨kd, w, nm, e⟩]))) : W 68 [.ptr B.length 0, .int .i64 kd, .str w, .int .i64 nm, .int .i64 e] (lH B s p toks) K := by
  refine W_of mixed c68 (by simp [A68]) ?_
  cases toks with
  | nil =>
    simp [A68, lH, fillA, setL, appA]
    simp [lH, Tok.av] at k
    exact .inl k
  | cons t ts =>
    have hb : (ts.length + 1 + 1) * 40 ≤ 140737488355328 := by simp at ht; omega
    simp [A68, lH, fillA, setL, appA, hb]
    simp [lH, Tok.av] at k
    exact .inl k
theorem w89 (hp : p < s.size) (hs : s.size < 100000) (ht : toks.length < 1000000)
    (k : K (.ok (.int .i64 (if 16 < ((restB s p).takeWhile innerB).length then 6 else 0))) (lH B s (p + ((restB s p).takeWhile innerB).length) (if 16 < ((restB s p).takeWhile innerB).length then toks else toks ++ [⟨1, bA ((restB s p).takeWhile innerB), 0, p⟩]))) : W 89 [.ptr B.length 0] (lH B s p toks) K := by
  refine W_of mixed c89 (by simp [A89]) ?_
  simp [A89, lH_get]
  refine w109 (f := innerB) (fun c H K k => w110 k) lH_get (by omega) hs ?_
  rw [lH_set, ext_while]
  simp [bA_size]
  by_cases h16 : 16 < ((restB s p).takeWhile innerB).length
  · simp [h16] at k
    have h16' : (16 : Int) < (((restB s p).takeWhile innerB).length : Int) := by omega
    simp [h16']
    exact .inl k
  · simp [h16] at k
    have h16' : ¬ (16 : Int) < (((restB s p).takeWhile innerB).length : Int) := by omega
    simp [h16']
    refine w68 ht ?_
    simp
    exact .inl k
def numV (l : List UInt8) : Int := l.foldl (fun (n : Int) (c : UInt8) => 10 * n + (c.toNat - 48 : Int)) 0
def numE (l : List UInt8) : Int := if 1 < l.length ∧ (l.head?.map UInt8.toNat) = some 48 then 1 else if 4 < l.length then 3 else 0
theorem numV_step {w : List UInt8} {i : Nat} {c : UInt8} (hc : w[i]? = some c) : numV (w.take (i + 1)) = 10 * numV (w.take i) + (c.toNat - 48 : Int) := by
  rw [numV, List.take_add_one, hc, Option.toList_some, List.foldl_append]
  rfl
theorem num_loop {w : List UInt8} {H0 : List AO} {q : Nat} (hall : ∀ c ∈ w, digitB c = true) (h4 : w.length ≤ 4) (ht : toks.length < 1000000)
    (k : K (.ok (.int .i64 0)) (lH B s q (toks ++ [⟨2, bA w, numV w, p⟩]))) :
    LP ⟨intPg Try.prog 0 .i64, H0, [.t 2], K⟩ [0, 3, 4, 5, 27, 28] A91_l0 [KI.blk 1, KI.seq A91_r0] [(0, .ptr B.length 0), (3, .int .i64 (p : Int)), (4, .str (bA w)), (5, .int .i64 0), (27, .int .i64 ((bA w).size : Int)), (28, .int .i64 0)] (lH B s q toks) := by
  have hlen : (bA w).size = w.length := bA_size w
  have hget : ∀ i : Nat, (bA w).data[i]? = w[i]? := fun i => by simp [bA]
  refine lp_ind (ι := Nat) (fun i => i ≤ w.length ∧ 0 ≤ numV (w.take i) ∧ numV (w.take i) < ((10 ^ i : Nat) : Int)) (fun i => w.length - i)
    (fun i => [(0, .ptr B.length 0), (3, .int .i64 (p : Int)), (4, .str (bA w)), (5, .int .i64 (numV (w.take i))), (27, .int .i64 ((bA w).size : Int)), (28, .int .i64 (i : Int))]) (fun i => lH B s q toks) ?_ 0 ⟨by omega, by simp [numV], by simp [numV]⟩
  intro i ⟨hi, hv0, hv⟩ ih
  have hw := wrap_succ (i := i) (by omega)
  by_cases hlt : i < w.length
  · have hlt' : (i : Int) < (w.length : Int) := by omega
    have hp4 : 10 ^ i ≤ 10 ^ 4 := Nat.pow_le_pow_right (by omega) (by omega)
    obtain ⟨c, hc⟩ : ∃ c, w[i]? = some c := ⟨_, List.getElem?_eq_getElem hlt⟩
    have hd := hall c (List.mem_of_getElem? hc)
    simp [digitB] at hd
    have hst := numV_step hc
    have hps : 10 ^ (i + 1) = 10 ^ i * 10 := Nat.pow_succ ..
    have hn := ih (i + 1)
    have e1 : IntKind.u8.wrap ((c.toNat : Int) - 48) = (c.toNat : Int) - 48 := IntWalk.u8_in _ (by omega)
    have e2 : IntKind.i64.wrap ((c.toNat : Int) - 48) = (c.toNat : Int) - 48 := wrap_i64 _ (by omega) (by omega)
    have e3 : IntKind.i64.wrap (10 * numV (w.take i)) = 10 * numV (w.take i) := wrap_i64 _ (by omega) (by omega)
    have e4 : IntKind.i64.wrap (10 * numV (w.take i) + ((c.toNat : Int) - 48)) = 10 * numV (w.take i) + ((c.toNat : Int) - 48) := wrap_i64 _ (by omega) (by omega)
    have hgt : ∀ h : i < (bA w).data.size, (bA w).data[i]'h = c := fun h => by have := hget i; rw [hc, Array.getElem?_eq_getElem h] at this; exact Option.some.inj this
    simp [A91_l0, hlen, hlt', hlt, hgt, e1, e2, e3, e4, hw]
    rw [hst] at hn
    simp [hlen] at hn
    refine hn (by omega) (by omega) ?_ (by omega)
    have : ((10 ^ (i + 1) : Nat) : Int) = ((10 ^ i : Nat) : Int) * 10 := by rw [hps]; simp
    simp at this hv
    omega
  · have : i = w.length := by omega
    subst this
    have hlt' : ¬ (w.length : Int) < (w.length : Int) := by omega
    simp [A91_l0, A91_r0, hlen]
    refine w68 ht ?_
    simp
    exact .inl k
theorem w91 (hp : p < s.size) (hs : s.size < 100000) (ht : toks.length < 1000000)
    (k : K (.ok (.int .i64 (numE ((restB s p).takeWhile digitB)))) (lH B s (p + ((restB s p).takeWhile digitB).length) (if numE ((restB s p).takeWhile digitB) = 0 then toks ++ [⟨2, bA ((restB s p).takeWhile digitB), numV ((restB s p).takeWhile digitB), p⟩] else toks))) : W 91 [.ptr B.length 0] (lH B s p toks) K := by
  refine W_of mixed c91 (by simp [A91]) ?_
  simp [A91, lH_get]
  refine w109 (f := digitB) (fun c H K k => w90 k) lH_get (by omega) hs ?_
  rw [lH_set, ext_while]
  have hall : ∀ c ∈ (restB s p).takeWhile digitB, digitB c = true := fun c hc => List.all_eq_true.1 List.all_takeWhile c hc
  have hwl := while_len digitB (restB s p)
  rw [rest_len] at hwl
  obtain ⟨w, hw⟩ : ∃ w, w = (restB s p).takeWhile digitB := ⟨_, rfl⟩
  rw [← hw] at k hall hwl ⊢
  have hlen : (bA w).size = w.length := bA_size w
  have hget : ∀ i : Nat, (bA w).data[i]? = w[i]? := fun i => by simp [bA]
  have hget0 : (bA w).data[0]? = w.head? := by rw [hget]; cases w <;> rfl
  simp [hlen]
  by_cases h1 : 1 < w.length
  · have h1' : (1 : Int) < (w.length : Int) := by omega
    have h0 : (0 : Int) < (w.length : Int) := by omega
    obtain ⟨c, hc⟩ : ∃ c, w.head? = some c := by cases w with | nil => simp at h1 | cons c r => exact ⟨c, rfl⟩
    by_cases h48 : c.toNat = 48
    · simp [numE, h1, hc, h48] at k
      simp [h1', hget0, hc, h48]
      exact .inl k
    · have h48' : ¬ (c.toNat : Int) = 48 := by omega
      simp [h1', hget0, hc, h48', hlen]
      by_cases h4 : 4 < w.length
      · have h4' : (4 : Int) < (w.length : Int) := by omega
        simp [numE, hc, h48, h4] at k
        simp [h4']
        exact .inl k
      · have h4' : ¬ (4 : Int) < (w.length : Int) := by omega
        simp [numE, hc, h48, h4] at k
        simp [h4']
        have := num_loop (H0 := lH B s p toks) hall (by omega) ht k
        rw [hlen] at this
        exact this
  · have h1' : ¬ (1 : Int) < (w.length : Int) := by omega
    have h4 : ¬ 4 < w.length := by omega
    have h4' : ¬ (4 : Int) < (w.length : Int) := by omega
    simp [h1', h4', hlen]
    simp [numE, h1, h4] at k
    have := num_loop (H0 := lH B s p toks) hall (by omega) ht k
    rw [hlen] at this
    exact this
end
end Go.Proofs.Ytjljhmeadfejhaa

/- The lexer: notes, and what begins at a byte, about the engine. -/
set_option maxRecDepth 100000
set_option linter.unusedVariables false
set_option linter.unusedSimpArgs false
namespace Go.Proofs.Ytjljhmeadfejhaa
open Go.Eng
theorem bA_inj {a b : List UInt8} (h : bA a = bA b) : a = b := by
  have := congrArg (fun x : ByteArray => x.data.toList) h
  simpa [bA] using this
theorem ext_all (s : ByteArray) (p : Nat) (hp : p ≤ s.size) : s.extract p s.size = bA (restB s p) := by
  have := ext_bA (s := s) (p := p) (s.size - p)
  rw [show p + (s.size - p) = s.size by omega] at this
  rw [this, List.take_of_length_le (by rw [rest_len]; omega)]
theorem bA_take (l : List UInt8) (n : Nat) : (bA l).extract 0 n = bA (l.take n) := by
  apply ByteArray.ext
  apply Array.ext'
  simp [bA, ByteArray.data_extract, Array.toList_extract, List.extract]
def noteP (l : List UInt8) : Bool := decide (l.take 2 = [47, 47])
theorem noteP_eq (l : List UInt8) : decide (2 ≤ (bA l).size ∧ (bA l).extract 0 2 = (⟨#[47, 47]⟩ : ByteArray)) = noteP l := by
  rw [bA_size, bA_take]
  unfold noteP
  by_cases h : l.take 2 = [47, 47]
  · have h2 : 2 ≤ l.length := by
      have := congrArg List.length h
      rw [List.length_take] at this
      simp at this
      omega
    rw [h]
    simp [h2]
    rfl
  · rw [decide_eq_false h, decide_eq_false]
    rintro ⟨_, e⟩
    exact h (bA_inj (e.trans rfl))
def signsL : List UInt8 := [123, 125, 40, 41, 60, 62, 58, 59, 44, 63]
theorem index_lt : ∀ (l : List UInt8) (c : UInt8), decide (Lib.indexByte l c < 0) = !(l.contains c)
  | [], c => by simp [Lib.indexByte]
  | b :: l, c => by
    have ih := index_lt l c
    have ge := Lib.indexByte_ge l c
    rw [Lib.indexByte, List.contains_cons]
    by_cases h : b = c
    · subst h; simp
    · have h' : ¬ c = b := fun e => h e.symm
      have e1 : (b == c) = false := by simpa using h
      have e2 : (c == b) = false := by simpa using h'
      rw [e1, e2, Bool.false_or, ← ih]
      by_cases h2 : Lib.indexByte l c = -1
      · simp [h2]
      · have h3 : (Lib.indexByte l c == -1) = false := by simpa using h2
        have : ¬ Lib.indexByte l c < 0 := by omega
        simp [h3, this]
        omega
def oneR : List UInt8 → Int × Nat × List (Int × List UInt8 × Int)
  | [] => (0, 0, [])
  | c :: r =>
    if letterB c = true then (if 16 < ((c :: r).takeWhile innerB).length then (6, ((c :: r).takeWhile innerB).length, []) else (0, ((c :: r).takeWhile innerB).length, [(1, (c :: r).takeWhile innerB, 0)]))
    else if digitB c = true then (if numE ((c :: r).takeWhile digitB) = 0 then (0, ((c :: r).takeWhile digitB).length, [(2, (c :: r).takeWhile digitB, numV ((c :: r).takeWhile digitB))]) else (numE ((c :: r).takeWhile digitB), ((c :: r).takeWhile digitB).length, []))
    else if c.toNat = 47 then (if noteP (c :: r) = true then (0, ((c :: r).takeWhile noteB).length, []) else (5, 0, []))
    else if c.toNat = 32 ∨ c.toNat = 9 ∨ c.toNat = 10 ∨ c.toNat = 13 then (0, 1, [])
    else if signsL.contains c = true then (0, 1, [(3, [c], 0)]) else (5, 0, [])
def tokOf (p : Nat) (t : Int × List UInt8 × Int) : Tok := ⟨t.1, bA t.2.1, t.2.2, p⟩
section
variable {B : List AO} {s : ByteArray} {p : Nat} {toks : List Tok} {K : ARes → List AO → Prop}
theorem lH_set1 : (lH B s p toks).set B.length (.box [.str s, .int .i64 ((p : Int) + 1), lO B toks]) = lH B s (p + 1) toks := lH_set (p + 1)
theorem w92 (hp : p < s.size) (hs : s.size < 100000)
    (k : K (.ok (.bool (noteP (restB s p)))) (lH B s (if noteP (restB s p) = true then p + ((restB s p).takeWhile noteB).length else p) toks)) : W 92 [.ptr B.length 0] (lH B s p toks) K := by
  refine W_of mixed c92 (by simp [A92]) ?_
  have hp' : p ≤ s.size := by omega
  simp [A92, lH_get, hp']
  refine ⟨_, _, w111 ⟨rfl, rfl⟩, ?_⟩
  rw [ext_all s p hp']
  have e := noteP_eq (restB s p)
  rw [show ((⟨#[47, 47]⟩ : ByteArray)).size = 2 from rfl, e]
  cases hn : noteP (restB s p) with
  | false =>
    simp [hn] at k
    simp
    exact .inl k
  | true =>
    simp [hn] at k
    simp
    refine w109 (f := noteB) (fun c H K k => w112 k) lH_get (by omega) hs ?_
    rw [lH_set]
    simp
    exact .inl k
theorem w67 (hp : p < s.size) (hs : s.size < 100000) (ht : toks.length < 1000000)
    (k : K (.ok (.int .i64 (oneR (restB s p)).1)) (lH B s (p + (oneR (restB s p)).2.1) (toks ++ (oneR (restB s p)).2.2.map (tokOf p)))) : W 67 [.ptr B.length 0] (lH B s p toks) K := by
  refine W_of mixed c67 (by simp [A67]) ?_
  have hr := restB_cons hp
  obtain ⟨c, hc⟩ : ∃ c, c = s.data[p]'hp := ⟨_, rfl⟩
  rw [← hc] at hr
  simp [A67, lH_get, hp, ← hc]
  refine w88 ?_
  rw [hr] at k
  have hr' := hr
  cases hL : letterB c with
  | true =>
    simp only [oneR, hL, if_true] at k
    simp
    refine w89 hp hs ht ?_
    rw [hr]
    by_cases h16 : 16 < ((c :: restB s (p + 1)).takeWhile innerB).length
    · rw [if_pos h16] at k
      rw [if_pos h16, if_pos h16]
      simp
      simp [tokOf] at k
      exact .inl k
    · rw [if_neg h16] at k
      rw [if_neg h16, if_neg h16]
      simp
      simp [tokOf] at k
      exact .inl k
  | false =>
    simp
    refine w90 ?_
    cases hD : digitB c with
    | true =>
      simp only [oneR, hL, hD, if_true, Bool.false_eq_true, if_false] at k
      simp
      refine w91 hp hs ht ?_
      rw [hr]
      by_cases hn : numE ((c :: restB s (p + 1)).takeWhile digitB) = 0
      · rw [if_pos hn] at k
        rw [if_pos hn, hn]
        simp
        simp [tokOf] at k
        exact .inl k
      · rw [if_neg hn] at k
        rw [if_neg hn]
        simp
        simp [tokOf] at k
        exact .inl k
    | false =>
      simp only [oneR, hL, hD, Bool.false_eq_true, if_false] at k
      simp
      by_cases h47 : c.toNat = 47
      · have j : (c.toNat : Int) = 47 := by omega
        simp only [if_pos h47] at k
        simp [j]
        refine w92 hp hs ?_
        rw [hr]
        cases hn : noteP (c :: restB s (p + 1)) with
        | true =>
          rw [if_pos hn] at k
          simp
          simp at k
          exact .inl k
        | false =>
          rw [if_neg (by rw [hn]; decide)] at k
          simp
          simp at k
          exact .inl k
      · rw [if_neg h47] at k
        have j47 : ¬ (c.toNat : Int) = 47 := by omega
        by_cases hb : c.toNat = 32 ∨ c.toNat = 9 ∨ c.toNat = 10 ∨ c.toNat = 13
        · rw [if_pos hb] at k
          have hw := wrap_succ (i := p) (by omega)
          simp at k
          rcases hb with h | h | h | h
          all_goals
            have j : (c.toNat : Int) = _ := congrArg Nat.cast h
            simp [j, lH_get, hw]
            rw [lH_set1]
            exact .inl k
        · rw [if_neg hb] at k
          have j1 : ¬ (c.toNat : Int) = 32 := by omega
          have j2 : ¬ (c.toNat : Int) = 9 := by omega
          have j3 : ¬ (c.toNat : Int) = 10 := by omega
          have j4 : ¬ (c.toNat : Int) = 13 := by omega
          have hw := wrap_succ (i := p) (by omega)
          simp [j47, j1, j2, j3, j4]
          refine w93 ?_
          have hcc : ((c.toNat : Int).toNat).toUInt8 = c := by simp
          have hx := index_lt signsL c
          rw [hcc]
          rw [show ((⟨#[123, 125, 40, 41, 60, 62, 58, 59, 44, 63]⟩ : ByteArray)).data.toList = signsL from rfl]
          cases hs2 : signsL.contains c with
          | false =>
            rw [if_neg (by rw [hs2]; decide)] at k
            rw [hs2] at hx
            simp at hx
            simp [hx]
            simp at k
            exact .inl k
          | true =>
            rw [if_pos hs2] at k
            rw [hs2] at hx
            simp at hx
            have hx' : ¬ Lib.indexByte signsL c < 0 := by omega
            have hwp : IntKind.i64.wrap (p : Int) = (p : Int) := wrap_i64 _ (by omega) (by omega)
            have hb1 : (p : Int) + 1 ≤ (s.size : Int) := by omega
            have hb2 : (p : Int) ≤ (p : Int) + 1 := by omega
            simp [hx', lH_get, hw, lH_set1, hwp, hb1, hb2]
            rw [ext_bA, hr']
            refine ⟨_, _, w68 (p := p + 1) ht ⟨rfl, rfl⟩, ?_⟩
            simp
            simp [tokOf] at k
            exact .inl k
end
end Go.Proofs.Ytjljhmeadfejhaa

/- The lexer: a text's tokens, about the engine. -/
set_option maxRecDepth 100000
set_option linter.unusedVariables false
set_option linter.unusedSimpArgs false
namespace Go.Proofs.Ytjljhmeadfejhaa
open Go.Eng
/-- Tokens of what is left: what is wrong first, where, and the tokens. -/
def lexR : Nat → List UInt8 → Nat → List Tok → Int × Nat × List Tok
  | 0, _, p, t => (0, p, t)
  | f + 1, r, p, t =>
    if r = [] then (0, p, t)
    else if (oneR r).1 = 0 then lexR f (r.drop (oneR r).2.1) (p + (oneR r).2.1) (t ++ (oneR r).2.2.map (tokOf p))
    else ((oneR r).1, p, t)
theorem letter_inner {c : UInt8} (h : letterB c = true) : innerB c = true := by simp [innerB, h]
theorem oneR_cons (c : UInt8) (r : List UInt8) : oneR (c :: r) =
    if letterB c = true then (if 16 < ((c :: r).takeWhile innerB).length then (6, ((c :: r).takeWhile innerB).length, []) else (0, ((c :: r).takeWhile innerB).length, [(1, (c :: r).takeWhile innerB, 0)]))
    else if digitB c = true then (if numE ((c :: r).takeWhile digitB) = 0 then (0, ((c :: r).takeWhile digitB).length, [(2, (c :: r).takeWhile digitB, numV ((c :: r).takeWhile digitB))]) else (numE ((c :: r).takeWhile digitB), ((c :: r).takeWhile digitB).length, []))
    else if c.toNat = 47 then (if noteP (c :: r) = true then (0, ((c :: r).takeWhile noteB).length, []) else (5, 0, []))
    else if c.toNat = 32 ∨ c.toNat = 9 ∨ c.toNat = 10 ∨ c.toNat = 13 then (0, 1, [])
    else if signsL.contains c = true then (0, 1, [(3, [c], 0)]) else (5, 0, []) := rfl
theorem one_adv {c : UInt8} {r : List UInt8} (h : (oneR (c :: r)).1 = 0) : 1 ≤ (oneR (c :: r)).2.1 := by
  rw [oneR_cons] at h ⊢
  by_cases hL : letterB c = true
  · rw [if_pos hL]
    have : 1 ≤ ((c :: r).takeWhile innerB).length := by rw [List.takeWhile_cons_of_pos (letter_inner hL)]; simp
    split <;> exact this
  · rw [if_neg hL] at h ⊢
    by_cases hD : digitB c = true
    · rw [if_pos hD]
      have : 1 ≤ ((c :: r).takeWhile digitB).length := by rw [List.takeWhile_cons_of_pos hD]; simp
      split <;> exact this
    · rw [if_neg hD] at h ⊢
      by_cases h47 : c.toNat = 47
      · rw [if_pos h47] at h ⊢
        have hN : noteB c = true := by simp [noteB, h47]
        have : 1 ≤ ((c :: r).takeWhile noteB).length := by rw [List.takeWhile_cons_of_pos hN]; simp
        by_cases hn : noteP (c :: r) = true
        · rw [if_pos hn]; exact this
        · rw [if_neg hn] at h; simp at h
      · rw [if_neg h47] at h ⊢
        by_cases h1 : c.toNat = 32 ∨ c.toNat = 9 ∨ c.toNat = 10 ∨ c.toNat = 13
        · rw [if_pos h1]; exact Nat.le_refl 1
        · rw [if_neg h1] at h ⊢
          by_cases h2 : signsL.contains c = true
          · rw [if_pos h2]; exact Nat.le_refl 1
          · rw [if_neg h2] at h; simp at h
theorem one_le (r : List UInt8) : (oneR r).2.1 ≤ r.length := by
  cases r with
  | nil => exact Nat.le_refl 0
  | cons c r =>
    rw [oneR_cons]
    have a1 := while_len innerB (c :: r)
    have a2 := while_len digitB (c :: r)
    have a3 := while_len noteB (c :: r)
    have a4 : 1 ≤ (c :: r).length := by simp
    repeat' split
    all_goals first | exact a1 | exact a2 | exact a3 | exact a4 | exact Nat.zero_le _
theorem one_cnt (r : List UInt8) : (oneR r).2.2.length ≤ 1 := by
  cases r with
  | nil => exact Nat.zero_le _
  | cons c r =>
    rw [oneR_cons]
    repeat' split
    all_goals first | exact Nat.zero_le _ | exact Nat.le_refl 1
theorem lp_eqF {C : Ctx} {keep : List Nat} {a : AC} {k : List KI} {f f' : Fr} {h : List AO} (e : keepF keep f = keepF keep f') (L : LP C keep a k f' h) : LP C keep a k f h := by
  unfold LP at L ⊢
  cases L with
  | mk _ _ B hB hb => exact .mk f h B hB (by rw [e]; exact hb)
  | drop _ _ m j f2 hd he hb => exact .drop f h m j f2 hd (by rw [e]; exact he) hb
theorem lH_get0 {h : List AO} {b : AO} {s : ByteArray} {p : Nat} {t : List Tok} : (lH (h ++ [b]) s p t)[h.length]? = some b := by
  cases t <;> simp [lH]
theorem lH_set0 {h : List AO} {b b' : AO} {s : ByteArray} {p : Nat} {t : List Tok} : (lH (h ++ [b]) s p t).set h.length b' = lH (h ++ [b']) s p t := by
  cases t <;> simp [lH, List.set_append_right]
theorem lH_app {h : List AO} {b : AO} {s : ByteArray} {p : Nat} {t : List Tok} : ∃ X, lH (h ++ [b]) s p t = h ++ X := by
  cases t <;> simp [lH]
section
variable {B : List AO} {s : ByteArray} {K : ARes → List AO → Prop}
def fault0 : AV := .agg [.int .i64 0, .int .i64 0]
def endT (s : ByteArray) : Tok := ⟨4, ⟨#[]⟩, 0, s.size⟩
/-- What Tokens answers. -/
def toksR (s : ByteArray) : AV :=
  if 1024 < s.size then .tup [.esl, .agg [.int .i64 3, .int .i64 0]]
  else if (lexR (s.size + 1) (restB s 0) 0 []).1 = 0 then .tup [.rsl (((lexR (s.size + 1) (restB s 0) 0 []).2.2 ++ [endT s]).map Tok.av), .agg [.int .i64 0, .int .i64 0]]
  else .tup [.esl, .agg [.int .i64 (lexR (s.size + 1) (restB s 0) 0 []).1, .int .i64 ((lexR (s.size + 1) (restB s 0) 0 []).2.1 : Int)]]
theorem rest_drop (s : ByteArray) (p n : Nat) : (restB s p).drop n = restB s (p + n) := by simp [restB, List.drop_drop]
theorem rest_ne {s : ByteArray} {p : Nat} (h : p < s.size) : restB s p ≠ [] := by rw [restB_cons h]; simp
theorem w47 {h : List AO} (k : K (.ok (toksR s)) h) : W 47 [.str s] h K := by
  refine W_of mixed c47 (by simp [A47]) ?_
  unfold toksR at k
  by_cases hbig : 1024 < s.size
  · have hbig' : (1024 : Int) < (s.size : Int) := by omega
    rw [if_pos hbig] at k
    simp [A47, hbig', fillA, setL]
    exact ret_pureJ (by simp [out, mapO]) k
  · have hbig' : ¬ (1024 : Int) < (s.size : Int) := by omega
    have hsz : s.size < 100000 := by omega
    rw [if_neg hbig] at k
    simp [A47, hbig', fillA, setL]
    obtain ⟨R, hR⟩ : ∃ R, R = lexR (s.size + 1) (restB s 0) 0 [] := ⟨_, rfl⟩
    rw [← hR] at k
    obtain ⟨B, hB⟩ : ∃ B : List AO, B = h ++ [.box [.int .i64 0, .int .i64 0]] := ⟨_, rfl⟩
    have hBl : B.length = h.length + 1 := by rw [hB]; simp
    refine lp_indE (ι := Nat × Nat × List Tok) (fun i => R = lexR i.1 (restB s i.2.1) i.2.1 i.2.2 ∧ i.2.1 ≤ s.size ∧ s.size - i.2.1 + 1 ≤ i.1 ∧ i.2.2.length ≤ i.2.1) (fun i => i.1)
      (fun i => [(0, .str s), (3, .ptr h.length 0), (4, .ptr (h.length + 1) 0)]) (fun i => lH B s i.2.1 i.2.2) ?_ (s.size + 1, 0, []) ⟨hR, by simp, by simp, by simp⟩ rfl (by simp [lH, hB])
    rintro ⟨f, p, t⟩ ⟨hr, hp, hf, ht⟩ ih
    simp only at hr hp hf ht ih ⊢
    obtain ⟨f, rfl⟩ : ∃ f', f = f' + 1 := ⟨f - 1, by omega⟩
    rw [lexR] at hr
    have hg : ∀ t, (lH B s p t)[h.length + 1]? = some (lB s p (lO B t)) := fun t => by rw [← hBl]; exact lH_get
    by_cases hlt : p < s.size
    · have hlt' : (p : Int) < (s.size : Int) := by omega
      rw [if_neg (rest_ne hlt)] at hr
      simp [A47_l0, hg, hlt]
      rw [← hBl]
      refine w67 hlt hsz (by omega) ?_
      by_cases h0 : (oneR (restB s p)).1 = 0
      · rw [if_pos h0, rest_drop] at hr
        simp [h0]
        have ha := one_adv (c := s.data[p]'hlt) (r := restB s (p + 1)) (by rw [← restB_cons hlt]; exact h0)
        rw [← restB_cons hlt] at ha
        have hle := one_le (restB s p)
        rw [rest_len] at hle
        have hc := one_cnt (restB s p)
        have := ih (f, p + (oneR (restB s p)).2.1, t ++ (oneR (restB s p)).2.2.map (tokOf p)) ⟨hr, by simp; omega, by simp; omega, by simp; omega⟩ (by simp)
        rw [hBl]
        exact lp_eqF (by simp) this
      · rw [if_neg h0] at hr
        rw [hr, if_neg h0] at k
        subst hB
        simp [h0, fillA, setL, lH_set0, lH_get0]
        obtain ⟨X, hX⟩ := lH_app (h := h) (b := .box [.int .i64 (oneR (restB s p)).1, .int .i64 (p : Int)]) (s := s) (p := p + (oneR (restB s p)).2.1) (t := t ++ (oneR (restB s p)).2.2.map (tokOf p))
        rw [hX]
        exact ret_pureJ (by simp [out, mapO]) k
    · have hlt' : ¬ (p : Int) < (s.size : Int) := by omega
      rw [restB_nil (by omega), if_pos rfl] at hr
      rw [hr, if_pos rfl] at k
      simp [A47_l0, A47_r0, hg, hlt]
      rw [← hBl]
      refine w68 (by omega) ?_
      subst hB
      simp [hg, fillA, setL, lH_get0, lH_set0]
      obtain ⟨X, hX⟩ := lH_app (h := h) (b := .box [.int .i64 0, .int .i64 0]) (s := s) (p := p) (t := t ++ [endT s])
      rw [show ({ kind := 4, text := ⟨#[]⟩, num := 0, at_ := (s.size : Int) } : Tok) = endT s from rfl, hX]
      have e1 : lO (h ++ [AO.box [.int .i64 0, .int .i64 0]]) (t ++ [endT s]) = .osl (h.length + 2) ((t ++ [endT s]).map Tok.av) := by
        cases t <;> simp [lO]
      rw [e1]
      have e2 : ¬ h.length + 2 < h.length := by omega
      refine .inr ⟨h.length, 3, _, DropOk.app h X, by simp [out, mapO, e2]; rfl, ?_⟩
      rw [List.take_left]
      simpa using k
end
end Go.Proofs.Ytjljhmeadfejhaa

/- The parser's whole, about the engine. -/
set_option maxRecDepth 100000
set_option linter.unusedVariables false
set_option linter.unusedSimpArgs false
namespace Go.Proofs.Ytjljhmeadfejhaa
open Go.Eng
theorem rows_pos {l : List Tok} (T : TL l) {σ : Type} {step : PS → σ → PS × σ} (hpos : ∀ s x, s.pos < l.length → (step s x).1.pos < l.length) : ∀ (f n : Nat) (s : PS) (x : σ), s.pos < l.length → (rowsP l step f n s x).1.pos < l.length
  | 0, n, s, x, h => h
  | f + 1, n, s, x, h => by
    rw [rowsP]
    split
    · split
      · exact may_pos T h
      · split
        · exact rows_pos T hpos f _ _ _ (by rw [fail_pos]; exact h)
        · exact rows_pos T hpos f _ _ _ (need_pos T (hpos _ _ h))
    · exact h
theorem decl_pos {l : List Tok} (T : TL l) {s : PS} (h : s.pos < l.length) : (declP l s).2.pos < l.length := by
  have hF : ∀ e kd s, s.pos < l.length → (withF l e kd s).2.pos < l.length := fun e kd s h => rows_pos T (fun s x h => (field_pos T h).1) _ _ _ _ (need_pos T (name_pos T h))
  have hE : ∀ e kd s, s.pos < l.length → (withE l e kd s).2.pos < l.length := fun e kd s h => rows_pos T (fun s x h => (enum_pos T h).1) _ _ _ _ (need_pos T (name_pos T h))
  have hM : ∀ e kd s, s.pos < l.length → (withM l e kd s).2.pos < l.length := fun e kd s h => rows_pos T (fun s x h => meth_pos T h) _ _ _ _ (need_pos T (name_pos T h))
  unfold declP
  repeat' split
  · exact hF _ _ _ (may_pos T h)
  · exact hF _ _ _ (may_pos T h)
  · exact hE _ _ _ (may_pos T h)
  · exact hM _ _ _ (may_pos T h)
  · exact hF _ _ _ (by rw [fail_pos]; exact h)
def parseP (l : List Tok) : Nat → PS → List Decl → PS × List Decl
  | 0, s, ds => (s, ds)
  | f + 1, s, ds =>
    if s.err = 0 ∧ ¬ (nowP l s).kind = 4 then
      (if ds.length = 16 then (failP l 3 s, ds) else parseP l f (declP l s).2 (ds ++ [(declP l s).1]))
    else (s, ds)
/-- Declarations of tokens. -/
def tokD (l : List Tok) : PS × List Decl := parseP l 17 ⟨0, 0, 0⟩ []
/-- What Parse answers. -/
def parseR (s : ByteArray) : Int × Int × List Decl :=
  if 1024 < s.size then (3, 0, [])
  else if (lexR (s.size + 1) (restB s 0) 0 []).1 = 0 then
    (if (tokD ((lexR (s.size + 1) (restB s 0) 0 []).2.2 ++ [endT s])).1.err = 0 then (0, 0, (tokD ((lexR (s.size + 1) (restB s 0) 0 []).2.2 ++ [endT s])).2)
    else ((tokD ((lexR (s.size + 1) (restB s 0) 0 []).2.2 ++ [endT s])).1.err, (tokD ((lexR (s.size + 1) (restB s 0) 0 []).2.2 ++ [endT s])).1.eat, []))
  else ((lexR (s.size + 1) (restB s 0) 0 []).1, (lexR (s.size + 1) (restB s 0) 0 []).2.1, [])
def parseA (s : ByteArray) : AV := .tup [rowJ ((parseR s).2.2.map Decl.av), .agg [.int .i64 (parseR s).1, .int .i64 (parseR s).2.1]]
/-! ### the lexer's tokens are as the parser wants them -/
theorem one_text (r : List UInt8) : ∀ t ∈ (oneR r).2.2, t.2.1.length ≤ r.length := by
  cases r with
  | nil => simp [oneR]
  | cons c r =>
    rw [oneR_cons]
    have a1 := while_len innerB (c :: r)
    have a2 := while_len digitB (c :: r)
    repeat' split
    all_goals
      intro t ht
      simp only [List.mem_singleton, List.not_mem_nil] at ht
    all_goals
      subst ht
      first | exact a1 | exact a2 | simp
theorem lex_small : ∀ (f : Nat) (r : List UInt8) (p : Nat) (t : List Tok), r.length ≤ 100000 → (∀ x ∈ t, x.text.size ≤ 100000) → ∀ x ∈ (lexR f r p t).2.2, x.text.size ≤ 100000
  | 0, r, p, t, hr, ht, x, hx => ht x hx
  | f + 1, r, p, t, hr, ht, x, hx => by
    rw [lexR] at hx
    split at hx
    · exact ht x hx
    · split at hx
      · refine lex_small f _ _ _ (by rw [List.length_drop]; omega) (fun y hy => ?_) x hx
        rw [List.mem_append] at hy
        rcases hy with hy | hy
        · exact ht y hy
        · obtain ⟨z, hz, rfl⟩ := List.mem_map.1 hy
          have := one_text r z hz
          show (bA z.2.1).size ≤ _
          rw [bA_size]
          omega
      · exact ht x hx
theorem lex_cnt : ∀ (f : Nat) (r : List UInt8) (p : Nat) (t : List Tok), (lexR f r p t).2.2.length ≤ t.length + f
  | 0, r, p, t => by simp [lexR]
  | f + 1, r, p, t => by
    rw [lexR]
    split
    · simp
    · split
      · have := lex_cnt f (r.drop (oneR r).2.1) (p + (oneR r).2.1) (t ++ (oneR r).2.2.map (tokOf p))
        have h1 := one_cnt r
        rw [List.length_append, List.length_map] at this
        omega
      · simp
theorem TL_of {s : ByteArray} (hs : s.size < 100000) : TL ((lexR (s.size + 1) (restB s 0) 0 []).2.2 ++ [endT s]) := by
  refine ⟨?_, fun i t hi hl => ?_, fun t ht => ?_⟩
  · have := lex_cnt (s.size + 1) (restB s 0) 0 []
    rw [List.length_append]
    simp at this ⊢
    omega
  · rw [List.length_append] at hl
    simp at hl
    rw [List.getElem?_append_right (by omega), show i - (lexR (s.size + 1) (restB s 0) 0 []).2.2.length = 0 by omega] at hi
    simp at hi
    subst hi
    exact ⟨rfl, rfl⟩
  · rw [List.mem_append] at ht
    rcases ht with ht | ht
    · exact lex_small _ _ _ _ (by rw [rest_len]; omega) (by simp) t ht
    · simp at ht
      subst ht
      exact Nat.zero_le _
/-! ### Parse -/
abbrev b00 : AO := .box [.int .i64 0, .int .i64 0]
def pH (h : List AO) (l : List Tok) (s : PS) (ds : List Decl) : List AO := match ds with
  | [] => h ++ [b00, b00, pB l s]
  | d :: ds => h ++ [b00, b00, pB l s, .tok 34 5 (d :: ds).length]
def pO (h : List AO) (ds : List Decl) : AV := match ds with
  | [] => .esl
  | d :: ds => .osl (h.length + 3) ((d :: ds).map Decl.av)
section
variable {h : List AO} {l : List Tok} {s : PS} {ds : List Decl} {K : ARes → List AO → Prop}
theorem pH_get : (pH h l s ds)[h.length + 2]? = some (pB l s) := by
  cases ds <;> simp [pH, List.getElem?_append_right]
theorem pH_set (s' : PS) : (pH h l s ds).set (h.length + 2) (pB l s') = pH h l s' ds := by
  cases ds <;> simp [pH, List.set_append_right]
theorem pH_app : ∃ X, pH h l s ds = h ++ X := by cases ds <;> simp [pH]
theorem pH_get0 : (pH h l s ds)[h.length]? = some b00 := by
  cases ds <;> simp [pH, List.getElem?_append_right]
theorem pO_len : lenA (pO h ds) = some ds.length := by cases ds <;> simp [pO]
theorem pH_set0 : (pH h l s ds).set h.length b00 = pH h l s ds := by cases ds <;> simp [pH, List.set_append_right]
theorem pH_set1 (b : AO) : ∃ X, (pH h l s ds).set h.length b = h ++ (b :: X) := by cases ds <;> simp [pH, List.set_append_right]
theorem out_pO (X : List AO) : out h.length (h ++ X) 2 (pO h ds) = some (rowJ (ds.map Decl.av)) := by
  have e : ¬ h.length + 3 < h.length := by omega
  cases ds <;> simp [pO, out, rowJ, e]
theorem w31 {t : ByteArray} (k : K (.ok (parseA t)) h) : W 31 [.str t] h K := by
  refine W_of mixed c31 (by simp [A31]) ?_
  unfold parseA at k
  unfold parseR at k
  simp [A31]
  refine w47 ?_
  unfold toksR
  by_cases hbig : 1024 < t.size
  · simp [hbig] at k
    simp [hbig, fillA, setL]
    exact ret_pureJ (by simp [out, mapO]) k
  · simp only [if_neg hbig] at k
    have TT := TL_of (s := t) (by omega)
    by_cases h0 : (lexR (t.size + 1) (restB t 0) 0 []).1 = 0
    · simp only [if_pos h0] at k
      simp [hbig, h0, fillA, setL]
      obtain ⟨l, hl⟩ : ∃ l, l = (lexR (t.size + 1) (restB t 0) 0 []).2.2 ++ [endT t] := ⟨_, rfl⟩
      rw [← hl] at TT k
      rw [show List.map Tok.av (lexR (t.size + 1) (restB t 0) 0 []).2.2 ++ [(endT t).av] = l.map Tok.av by rw [hl]; simp]
      have hl0 : 0 < l.length := by rw [hl]; simp
      obtain ⟨RR, hRR⟩ : ∃ RR, RR = tokD l := ⟨_, rfl⟩
      rw [← hRR] at k
      unfold tokD at hRR
      refine lp_indE (ι := Nat × PS × List Decl) (fun i => RR = parseP l i.1 i.2.1 i.2.2 ∧ i.1 + i.2.2.length = 17 ∧ i.2.2.length ≤ 16 ∧ i.2.1.pos < l.length) (fun i => i.1)
        (fun i => [(3, .ptr h.length 0), (6, .ptr (h.length + 2) 0), (7, .fn 48 [.ptr (h.length + 2) 0] []), (8, pO h i.2.2)]) (fun i => pH h l i.2.1 i.2.2) ?_ (17, ⟨0, 0, 0⟩, []) ⟨hRR, by simp, by simp, hl0⟩ (by simp [pO]) (by simp [pH, pB])
      rintro ⟨f, s, ds⟩ ⟨hr, hf, hd, hs⟩ ih
      simp only at hr hf hd hs ih ⊢
      obtain ⟨f, rfl⟩ : ∃ f', f = f' + 1 := ⟨f - 1, by omega⟩
      rw [parseP] at hr
      simp [A31_l0]
      refine w49 pH_get ?_
      by_cases he : s.err = 0
      · simp [he]
        refine w50 pH_get hs ?_
        by_cases h4 : (nowP l s).kind = 4
        · rw [if_neg (fun e => e.2 h4)] at hr
          simp [Tok.av, h4, A31_r0]
          refine w49 pH_get ?_
          simp [he, fillA, setL, pH_get0, pH_set0]
          obtain ⟨X, hX⟩ := pH_app (h := h) (l := l) (s := s) (ds := ds)
          rw [hr, if_pos he] at k
          rw [hX]
          refine .inr ⟨h.length, 3, _, DropOk.app h X, by simp [out, mapO, out_pO]; rfl, ?_⟩
          rw [List.take_left]
          exact k
        · rw [if_pos ⟨he, h4⟩] at hr
          by_cases h16 : ds.length = 16
          · rw [if_pos h16] at hr
            have hf0 := fail_err (l := l) (e := 3) (by decide) s
            simp [Tok.av, h4, -lenA, pO_len, h16]
            refine w51 pH_get hs ?_
            rw [pH_set]
            simp [A31_r0]
            refine w49 pH_get ?_
            simp [hf0, pH_get, fillA, setL, pH_get0]
            obtain ⟨X, hX⟩ := pH_set1 (h := h) (l := l) (s := failP l 3 s) (ds := ds) (.box [.int .i64 (failP l 3 s).err, .int .i64 (failP l 3 s).eat])
            rw [hr, if_neg hf0] at k
            rw [hX]
            simp
            exact ret_pureJ (by simp [out, mapO]) k
          · rw [if_neg h16] at hr
            have h16' : ¬ (ds.length : Int) = 16 := by omega
            simp [Tok.av, h4, -lenA, pO_len, h16']
            refine w48 TT pH_get hs ?_
            rw [pH_set]
            have hp2 := decl_pos TT hs
            have nx := ih (f, (declP l s).2, ds ++ [(declP l s).1]) ⟨hr, by simp; omega, by simp; omega, hp2⟩ (by simp)
            cases ds with
            | nil =>
              simp [pO, pH, appA, fillA, setL]
              simp [pO, pH, Decl.av] at nx
              exact lp_eqF (by simp [Decl.av]) nx
            | cons d ds =>
              have hb : (ds.length + 1 + 1) * 80 ≤ 140737488355328 := by simp at hd; omega
              simp [pO, pH, appA, fillA, setL, hb]
              simp [pO, pH, Decl.av] at nx
              exact lp_eqF (by simp [Decl.av]) nx
      · rw [if_neg (fun e => he e.1)] at hr
        simp [he, A31_r0]
        refine w49 pH_get ?_
        simp [he, pH_get, fillA, setL, pH_get0]
        obtain ⟨X, hX⟩ := pH_set1 (h := h) (l := l) (s := s) (ds := ds) (.box [.int .i64 s.err, .int .i64 s.eat])
        rw [hr, if_neg he] at k
        rw [hX]
        simp
        exact ret_pureJ (by simp [out, mapO]) k
    · simp only [if_neg h0] at k
      simp [hbig, h0, fillA, setL]
      exact ret_pureJ (by simp [out, mapO]) k
end
end Go.Proofs.Ytjljhmeadfejhaa
