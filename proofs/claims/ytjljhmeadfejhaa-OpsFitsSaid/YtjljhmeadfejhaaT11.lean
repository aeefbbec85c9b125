/- check.Finite, about the engine: it finds the least closed list. -/
import Derived.Test.YtjljhmeadfejhaaT10
import Derived.Test.YtjljhmeadfejhaaME4
set_option maxRecDepth 100000
set_option linter.unusedVariables false
set_option linter.unusedSimpArgs false
namespace Go.Proofs.Ytjljhmeadfejhaa
open Go.Eng
/-- What the one says, the other says too. -/
def Le (a b : List Bool) : Prop := ∀ i : Nat, a[i]?.getD false = true → b[i]?.getD false = true
theorem fineM_mono {ds : List Decl} {a b : List Bool} (L : Le a b) {t : Ty} (h : fineM ds a t = true) : fineM ds b t = true := by
  unfold fineM at h ⊢
  cases hf : fnd t.name ds with
  | none => rw [hf] at h; exact h
  | some i =>
    rw [hf] at h
    simp only [Bool.or_eq_true] at h ⊢
    exact h.imp id (L i)
theorem oneM_mono {ds : List Decl} {a b : List Bool} (L : Le a b) {d : Decl} (h : oneM ds a d = true) : oneM ds b d = true := by
  simp only [oneM, Bool.or_eq_true, Bool.and_eq_true, List.all_eq_true, List.any_eq_true] at h ⊢
  rcases h with (h | ⟨h, h'⟩) | ⟨h, f, hf, h'⟩
  · exact .inl (.inl h)
  · exact .inl (.inr ⟨h, fun f hf => fineM_mono L (h' f hf)⟩)
  · exact .inr ⟨h, f, hf, fineM_mono L h'⟩
theorem rndM_get {ds : List Decl} {bs : List Bool} {i : Nat} : (rndM ds bs)[i]?.getD false = ((ds[i]?).map (oneM ds bs)).getD false := by simp [rndM]
theorem rndM_mono {ds : List Decl} {a b : List Bool} (L : Le a b) : Le (rndM ds a) (rndM ds b) := by
  intro i h
  rw [rndM_get] at h ⊢
  cases hd : ds[i]? with
  | none => rw [hd] at h; simp at h
  | some d => rw [hd] at h; simp at h ⊢; exact oneM_mono L h
theorem Le.zero (n : Nat) (b : List Bool) : Le (List.replicate n false) b := by
  intro i h
  rw [List.getElem?_replicate] at h
  split at h <;> simp at h
theorem itF_step (ds : List Decl) : ∀ k, Le (itF ds k) (itF ds (k + 1))
  | 0 => Le.zero _ _
  | k + 1 => rndM_mono (itF_step ds k)
theorem cntLe : ∀ (a b : List Bool), a.length = b.length → Le a b → a = b ∨ a.count true < b.count true
  | [], [], _, _ => .inl rfl
  | [], y :: b, h, _ => by simp at h
  | x :: a, [], h, _ => by simp at h
  | x :: a, y :: b, h, L => by
    have h0 := L 0
    have ih := cntLe a b (by simpa using h) (fun i hi => by simpa using L (i + 1) (by simpa using hi))
    simp only [List.getElem?_cons_zero, Option.getD_some] at h0
    cases x <;> cases y
    · rcases ih with rfl | ih
      · exact .inl rfl
      · right; simpa using ih
    · rcases ih with rfl | ih
      · right; simp
      · right; simp; omega
    · simp at h0
    · rcases ih with rfl | ih
      · exact .inl rfl
      · right; simp; omega
theorem cnt_len (a : List Bool) : a.count true ≤ a.length := List.count_le_length
theorem itF_grow (ds : List Decl) : ∀ k, itF ds (k + 1) = itF ds k ∨ k + 1 ≤ (itF ds (k + 1)).count true := by
  intro k
  induction k with
  | zero =>
    rcases cntLe (itF ds 0) (itF ds 1) (by rw [itF_len, itF_len]) (itF_step ds 0) with h | h
    · exact .inl h.symm
    · right; exact Nat.succ_le_of_lt (Nat.lt_of_le_of_lt (Nat.zero_le _) h)
  | succ k ih =>
    rcases ih with ih | ih
    · left
      show rndM ds (itF ds (k + 1)) = itF ds (k + 1)
      rw [ih]; exact ih
    · rcases cntLe (itF ds (k + 1)) (itF ds (k + 2)) (by rw [itF_len, itF_len]) (itF_step ds (k + 1)) with h | h
      · exact .inl h.symm
      · right; exact Nat.succ_le_of_lt (Nat.lt_of_le_of_lt ih h)
theorem itF_fix (ds : List Decl) : rndM ds (itF ds ds.length) = itF ds ds.length := by
  rcases itF_grow ds ds.length with h | h
  · exact h
  · have := cnt_len (itF ds (ds.length + 1))
    rw [itF_len] at this
    omega
theorem itF_least {ds : List Decl} {bs : List Bool} (hl : bs.length = ds.length) (h1 : Le bs (itF ds ds.length))
    (h2 : ∀ i, ∀ hi : i < ds.length, bs[i]?.getD false = false → oneM ds bs ds[i] = false) : bs = itF ds ds.length := by
  have hc : Le (rndM ds bs) bs := by
    intro i h
    rw [rndM_get] at h
    cases hb : bs[i]?.getD false with
    | true => rfl
    | false =>
      rcases Nat.lt_or_ge i ds.length with hi | hi
      · rw [List.getElem?_eq_getElem hi] at h
        simp [h2 i hi hb] at h
      · rw [List.getElem?_eq_none hi] at h
        simp at h
  have hk : ∀ k, Le (itF ds k) bs := by
    intro k
    induction k with
    | zero => exact Le.zero _ _
    | succ k ih => intro i h; exact hc i (rndM_mono ih i h)
  have e : bs.length = (itF ds ds.length).length := by rw [hl, itF_len]
  rcases cntLe _ _ e h1 with h | h
  · exact h
  · rcases cntLe _ _ e.symm (hk _) with h' | h'
    · exact h'.symm
    · omega
theorem Le.put {ds : List Decl} {bs : List Bool} {i : Nat} (hi : i < ds.length) (L : Le bs (itF ds ds.length)) (h : oneM ds bs ds[i] = true) : Le (bs.set i true) (itF ds ds.length) := by
  intro j hj
  rw [List.getElem?_set] at hj
  split at hj
  · rename_i e
    subst e
    rw [← itF_fix, rndM_get, List.getElem?_eq_getElem hi]
    exact oneM_mono L h
  · exact L j hj
theorem Le.put_self {bs : List Bool} {i : Nat} : Le bs (bs.set i true) := by
  intro j hj
  rw [List.getElem?_set]
  split
  · rename_i e
    subst e
    split
    · rfl
    · rename_i hn
      rw [List.getElem?_eq_none (by omega)] at hj
      simp at hj
  · exact hj

theorem belL_bools (n : Nat) : ∀ bs : List Bool, belL n (bs.map .bool) = true
  | [] => rfl
  | b :: bs => by simp [belL, AV.bel, belL_bools n bs]
theorem setL_bools {bs : List Bool} {i : Nat} (hi : i < bs.length) : setL (bs.map .bool) i [.bool true] = (bs.set i true).map .bool := by
  rw [List.map_set, List.set_eq_take_append_cons_drop, if_pos (by simpa using hi)]
  simp [setL]
theorem w25 {h : List AO} {ds : List Decl} {K : ARes → List AO → Prop} (hl : ds.length < 2199023255552) (hok : ∀ d ∈ ds, d.ok) (k : K (.ok (.rsl ((itF ds ds.length).map .bool))) h) : W 25 [.rsl (ds.map Decl.av)] h K := by
  refine W_of mixed c25 (by simp [A25]) ?_
  have hb1 : (ds.length : Int) ≤ 281474976710656 := by omega
  have hb2 : (ds.length : Int) < 9223372036854775808 := by omega
  simp [A25, fillA]
  refine w11t hl ?_
  obtain ⟨T0, hT0⟩ : ∃ T0, T0 = ofT h.length ds ds.length := ⟨_, rfl⟩
  have hT : ∀ l, IsTab (h ++ (T0 ++ l)) (h.length + 1) ds := fun l => by rw [hT0]; exact isTab_app h l ds
  obtain ⟨hbel, hlen2⟩ := ofT_bel h.length ds ds.length
  rw [← hT0] at hbel hlen2 ⊢
  have hbel2 : T0.all (AO.bel (h.length + (T0.length + 2))) = true := all_bel_mono (by omega) hbel
  simp [fillA, hb1, hb2]
  refine lp_indE (ι := List Bool) (fun bs => bs.length = ds.length ∧ Le bs (itF ds ds.length)) (fun bs => ds.length - bs.count true)
    (fun bs => [(0, .rsl (ds.map Decl.av)), (3, .ptr (h.length + T0.length) 0), (4, .msl (h.length + (T0.length + 1)) 0 ds.length ds.length)])
    (fun bs => h ++ (T0 ++ [.box [.rsl (ds.map Decl.av), .ptr (h.length + 1) 0], .box (bs.map .bool)])) ?_ (List.replicate ds.length false) ⟨by simp, Le.zero _ _⟩ (by rfl) (by simp)
  intro bs ⟨hbl, hle⟩ ih
  have hA : ∀ bs' : List Bool, (T0 ++ [AO.box [.rsl (ds.map Decl.av), .ptr (h.length + 1) 0], AO.box (bs'.map AV.bool)]).all (AO.bel (h.length + (T0 ++ [AO.box [.rsl (ds.map Decl.av), .ptr (h.length + 1) 0], AO.box (bs'.map AV.bool)]).length)) = true := by
    intro bs'
    rw [List.all_append, Bool.and_eq_true]
    refine ⟨by simpa using hbel2, ?_⟩
    simp [AO.bel, belL, AV.bel, belL_bools]
  simp [uf A25_l1.eq_1]
  refine lp_for ds.length (fun i => ∀ j, j < i → ∀ hj : j < ds.length, bs[j]?.getD false = false → oneM ds bs ds[j] = false) (fun i f => setF f 17 (.int .i64 (i : Int))) (fun i => h ++ (T0 ++ [.box [.rsl (ds.map Decl.av), .ptr (h.length + 1) 0], .box (bs.map .bool)])) ?_ (fun j hj => by omega) (by simp) rfl
  intro i hi hinv ihi
  have hw := wrap_succ (i := i) (by omega)
  by_cases hlt : i < ds.length
  · have h1 : i < bs.length := by omega
    have h2 : i ≤ bs.length := by omega
    simp at ihi
    cases hb : bs[i] with
    | true =>
      have hb' : bs[i]? = some true := by rw [List.getElem?_eq_getElem h1, hb]
      simp [uf A25_l0.eq_1, hlt, Decl.av, h1, h2, hb, hw]
      refine lp_cutA (B := [AO.box _]) (by rw [List.append_assoc]; rfl) (hA bs) (by simp) (ihi (by omega) fun j hj hj' hjb => ?_)
      by_cases e : j = i
      · subst e; rw [hb'] at hjb; simp at hjb
      · exact hinv j (by omega) hj' hjb
    | false =>
      have hb' : bs[i]?.getD false = false := by rw [List.getElem?_eq_getElem h1, hb]; rfl
      simp [uf A25_l0.eq_1, hlt, Decl.av, h1, h2, hb, hw]
      refine w43 (c := h.length + T0.length) (tb := h.length + 1) (r := h.length + (T0.length + 1)) (bs := bs) (ds := ds) (d := ds[i]) (L := .rsl (ds.map Decl.av)) ?_ (hT _) ?_ (by omega) hbl (hok _ (List.getElem_mem hlt)) ?_
      · simp
      · simp
      · cases ho : oneM ds bs ds[i] with
        | true =>
          have hs := setL_bools h1
          simp only [setL] at hs
          simp at hs
          have h3 : i + 1 ≤ bs.length := by omega
          simp [hlt, h3, hs]
          have hm : ds.length - (bs.set i true).count true < ds.length - bs.count true := by
            have c1 := cnt_len (bs.set i true)
            rw [List.length_set, hbl] at c1
            rcases cntLe bs (bs.set i true) (by simp) Le.put_self with e | e
            · have : bs[i]? = (bs.set i true)[i]? := by rw [← e]
              rw [List.getElem?_eq_getElem h1, hb, List.getElem?_set_self h1] at this
              cases this
            · omega
          exact lp_cutA (B := [AO.box _]) (by rw [List.append_assoc, List.map_set]; rfl) (hA (bs.set i true)) (by simp) (ih (bs.set i true) ⟨by rw [List.length_set]; exact hbl, Le.put hlt hle ho⟩ hm)
        | false =>
          simp [hw]
          refine lp_cutA (B := [AO.box _]) (by rw [List.append_assoc]; rfl) (hA bs) (by simp) (ihi (by omega) fun j hj hj' hjb => ?_)
          by_cases e : j = i
          · subst e; exact ho
          · exact hinv j (by omega) hj' hjb
  · have hn : i = ds.length := by omega
    subst hn
    have hbs := itF_least hbl hle (fun j hj => hinv j hj hj)
    simp [uf A25_l0.eq_1, uf A25_r0.eq_1]
    refine .inr ⟨h.length, 3, .rsl (bs.map .bool), DropOk.app h _, ?_, by rw [List.take_left, hbs]; exact k⟩
    have hm := mapO_bools h.length (h ++ (T0 ++ [AO.box [AV.rsl (List.map Decl.av ds), AV.ptr (h.length + 1) 0], AO.box (List.map AV.bool bs)])) 0 bs
    simp [out, frz, hbl, packR]
    rw [List.take_of_length_le (by simp [hbl])]
    simp [hm]
end Go.Proofs.Ytjljhmeadfejhaa
