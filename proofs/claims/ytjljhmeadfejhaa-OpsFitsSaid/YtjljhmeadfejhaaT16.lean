/- Declarations of the checker, about the engine. -/
import Derived.Test.YtjljhmeadfejhaaT15
set_option maxRecDepth 100000
set_option linter.unusedVariables false
set_option linter.unusedSimpArgs false
namespace Go.Proofs.Ytjljhmeadfejhaa
open Go.Eng
theorem w64 {ds : List Decl} {c tb : Nat} {L : AV} {h : List AO} {d : Decl} {f : Fld} {K : ARes → List AO → Prop} (hc : h[c]? = some (.box [L, .ptr tb 0])) (T : IsTab h tb ds) (hok : f.ok) (k : K (.ok (.int .i64 (fieldM ds d.kind f))) h) :
    W 64 [.ptr c 0, .agg [.int .i64 d.kind, .str d.name, .rsl (d.fields.map Fld.av), .rsl (d.methods.map Mth.av), .int .i64 d.e], .agg [.int .i64 f.tag, .str f.name, .int .i64 f.ty.kind, .str f.ty.name, .rsl (f.ty.of.map Ty.av)]] h K := by
  refine W_of mixed c64 (by simp [A64]) ?_
  unfold fieldM at k
  by_cases c3 : d.kind = 3
  · simp [A64, c3] at k ⊢; exact ret_pure (by simp) k
  · simp [A64, c3]
    refine w86 _ f.ty (Nat.le_refl _) _ false _ (get_app_old hc _) (T.app _) hok.2.2 ?_
    by_cases he : typM ds f.ty false = 0
    · by_cases c2 : d.kind = 2
      · by_cases c9 : f.ty.kind = 9
        · simp [he, c2, c9] at k ⊢; exact ret_pure (by simp) k
        · simp [he, c2, c9] at k ⊢; exact ret_pure (by simp) k
      · simp [he, c2, c3] at k ⊢; exact ret_pure (by simp) k
    · simp [he, c3] at k ⊢; exact ret_pure (by simp) k

/-- While a declaration is looked at. -/
def dH (h : List AO) (d : Decl) (S : List (Int × ByteArray)) : List AO :=
  [.box [.int .i64 d.kind, .str d.name, .rsl (d.fields.map Fld.av), .rsl (d.methods.map Mth.av), .int .i64 d.e], .map (tmap S), .map (nmap S), .box [.map (h.length + 1), .map (h.length + 2)]]
theorem tmap_bel (n : Nat) (S : List (Int × ByteArray)) : (AO.map (tmap S)).bel n = true := by
  simp only [AO.bel, tmap, List.all_map, List.all_eq_true]
  intro x _; rfl
theorem nmap_bel (n : Nat) (S : List (Int × ByteArray)) : (AO.map (nmap S)).bel n = true := by
  simp only [AO.bel, nmap, List.all_map, List.all_eq_true]
  intro x _; rfl
theorem dH_bel (h : List AO) (d : Decl) (S : List (Int × ByteArray)) : (dH h d S).all (AO.bel (h.length + (dH h d S).length)) = true := by
  have h1 := tmap_bel (h.length + (dH h d S).length) S
  have h2 := nmap_bel (h.length + (dH h d S).length) S
  simp only [dH, List.all_cons, List.all_nil, Bool.and_eq_true] at h1 h2 ⊢
  refine ⟨rfl, h1, h2, ?_, trivial⟩
  simp [AO.bel, belL, AV.bel]
theorem tagsF_succ {l : List Fld} {i : Nat} (hi : i < l.length) : tagsF (l.take (i + 1)) = tagsF (l.take i) ++ [(l[i].tag, l[i].name)] := by
  rw [List.take_succ_eq_append_getElem hi, tagsF, List.map_append]; rfl
theorem fieldsM_step {ds : List Decl} {kd a b : Int} {l : List Fld} {i : Nat} (hi : i < l.length) : fieldsM ds kd a b (tagsF (l.take i)) (l.drop i) =
    if ¬ rowM (tagsF (l.take i)) l[i].tag l[i].name a b = 0 then rowM (tagsF (l.take i)) l[i].tag l[i].name a b else if ¬ fieldM ds kd l[i] = 0 then fieldM ds kd l[i] else fieldsM ds kd a b (tagsF (l.take (i + 1))) (l.drop (i + 1)) := by
  rw [List.drop_eq_getElem_cons hi, fieldsM, tagsF_succ hi]
def tagsM (l : List Mth) : List (Int × ByteArray) := l.map fun f => (f.tag, f.name)
theorem tagsM_succ {F : List (Int × ByteArray)} {l : List Mth} {i : Nat} (hi : i < l.length) : F ++ tagsM (l.take (i + 1)) = (F ++ tagsM (l.take i)) ++ [(l[i].tag, l[i].name)] := by
  rw [List.take_succ_eq_append_getElem hi, tagsM, List.map_append, List.append_assoc]; rfl
theorem methodsM_step {ds : List Decl} {a b : Int} {F : List (Int × ByteArray)} {l : List Mth} {i : Nat} (hi : i < l.length) : methodsM ds a b (F ++ tagsM (l.take i)) (l.drop i) =
    if ¬ rowM (F ++ tagsM (l.take i)) l[i].tag l[i].name a b = 0 then rowM (F ++ tagsM (l.take i)) l[i].tag l[i].name a b else if ¬ methodM ds l[i] = 0 then methodM ds l[i] else methodsM ds a b (F ++ tagsM (l.take (i + 1))) (l.drop (i + 1)) := by
  rw [List.drop_eq_getElem_cons hi, methodsM, tagsM_succ hi]
theorem rowM_vals (S : List (Int × ByteArray)) (t : Int) (s : ByteArray) (a b : Int) : rowM S t s a b = 9 ∨ rowM S t s a b = 7 ∨ rowM S t s a b = 0 := by
  unfold rowM
  split
  · exact .inl rfl
  · split
    · exact .inr (.inl rfl)
    · exact .inr (.inr rfl)

def endM (ds : List Decl) (d : Decl) (a b : Int) : Int :=
  if ¬ methodsM ds a b (tagsF d.fields) d.methods = 0 then methodsM ds a b (tagsF d.fields) d.methods else if (d.kind = 2 ∨ d.kind = 3) ∧ d.fields = [] then 12 else 0
def bodM (ds : List Decl) (d : Decl) (a b : Int) : Int := if ¬ fieldsM ds d.kind a b [] d.fields = 0 then fieldsM ds d.kind a b [] d.fields else endM ds d a b

theorem w45_m {ds : List Decl} {c tb : Nat} {h : List AO} {L : AV} {d : Decl} {a b : Int} {K : ARes → List AO → Prop} (hc : h[c]? = some (.box [L, .ptr tb 0])) (T : IsTab h tb ds) (hok : d.ok) (k : K (.ok (.int .i64 (endM ds d a b))) h) :
    LP ⟨intPg Try.prog 0 .i64, h, [.t 4], K⟩ [0, 5, 8, 9, 10, 78, 79, 80] A45_l1 [.blk 3, .seq A45_r0]
      [(0, .ptr c 0), (5, .ptr h.length 0), (8, .int .i64 a), (9, .int .i64 b), (10, .ptr (h.length + 3) 0), (78, .rsl (d.methods.map Mth.av)), (79, .int .i64 (d.methods.length : Int)), (80, .int .i64 0)] (h ++ dH h d (tagsF d.fields)) := by
  have hcl : c < h.length := (List.getElem?_eq_some_iff.1 hc).1
  obtain ⟨_, _, hf, hm, _, hfo, hmo⟩ := hok
  simp only [most] at hf hm
  unfold endM at k
  refine lp_for d.methods.length (fun j => methodsM ds a b (tagsF d.fields) d.methods = methodsM ds a b (tagsF d.fields ++ tagsM (d.methods.take j)) (d.methods.drop j)) (fun j f => setF f 80 (.int .i64 (j : Int)))
    (fun j => h ++ dH h d (tagsF d.fields ++ tagsM (d.methods.take j))) ?_ (by simp [tagsM]) (by simp) (by simp [tagsM])
  intro j hj hs ih
  have hw := wrap_succ (i := j) (by omega)
  simp at ih
  by_cases hlt : j < d.methods.length
  · rw [methodsM_step hlt] at hs
    simp [uf A45_l1.eq_1, hlt, Mth.av]
    refine w63 (S := tagsF d.fields ++ tagsM (d.methods.take j)) (tm := h.length + 1) (nm := h.length + 2) (by simp [dH]) (by simp [dH]) (by simp [dH]) (by omega) (by omega) (by omega) (fun e => ?_) (fun e te ne => ?_) (fun e => ?_)
    · rw [if_pos (by omega), e] at hs
      simp
      refine ret_pure (by simp) ?_
      rw [if_pos (by omega), hs] at k; exact k
    · rw [if_pos (by omega), e] at hs
      simp [dH]
      refine ret_pure (by simp) ?_
      rw [if_pos (by omega), hs] at k; exact k
    · rw [if_neg (by omega)] at hs
      rw [tagsM_succ hlt] at hs ih
      simp only [List.append_assoc] at hs ih
      simp [dH]
      refine w65 (get_app_old hc _) (T.app _) ?_
      by_cases he : methodM ds d.methods[j] = 0
      · rw [if_neg (by omega)] at hs
        simp [he, hw]
        refine lp_cutA (A := dH h d _) (B := [AO.box _]) rfl (dH_bel h d _) ?_ (ih (by omega) hs)
        simp [dH, show c < h.length + 4 by omega]
      · rw [if_pos he] at hs
        simp [he]
        refine ret_pure (by simp) ?_
        rw [hs, if_pos he] at k; exact k
  · have : d.methods.drop j = [] := List.drop_eq_nil_of_le (by omega)
    rw [this, methodsM] at hs
    rw [if_neg (by omega)] at k
    simp [uf A45_l1.eq_1, uf A45_r0.eq_1, hlt, dH]
    by_cases c2 : d.kind = 2
    · by_cases hn : d.fields = []
      · simp [c2, hn] at k ⊢; exact ret_pure (by simp) k
      · simp [c2, hn] at k ⊢; exact ret_pure (by simp) k
    · by_cases c3 : d.kind = 3
      · by_cases hn : d.fields = []
        · simp [c3, hn] at k ⊢; exact ret_pure (by simp) k
        · simp [c3, hn] at k ⊢; exact ret_pure (by simp) k
      · simp [c2, c3] at k ⊢; exact ret_pure (by simp) k

theorem w45_f {ds : List Decl} {c tb : Nat} {h : List AO} {L : AV} {d : Decl} {a b : Int} {K : ARes → List AO → Prop} (hc : h[c]? = some (.box [L, .ptr tb 0])) (T : IsTab h tb ds) (hok : d.ok) (k : K (.ok (.int .i64 (bodM ds d a b))) h) :
    LP ⟨intPg Try.prog 0 .i64, h, [.t 4], K⟩ [0, 5, 8, 9, 10, 52, 53, 54] A45_l0 [.blk 1, .seq A45_r1]
      [(0, .ptr c 0), (5, .ptr h.length 0), (8, .int .i64 a), (9, .int .i64 b), (10, .ptr (h.length + 3) 0), (52, .rsl (d.fields.map Fld.av)), (53, .int .i64 (d.fields.length : Int)), (54, .int .i64 0)] (h ++ dH h d []) := by
  have hcl : c < h.length := (List.getElem?_eq_some_iff.1 hc).1
  have hok' := hok
  obtain ⟨_, _, hf, hm, _, hfo, hmo⟩ := hok
  simp only [most] at hf hm
  unfold bodM at k
  refine lp_for d.fields.length (fun j => fieldsM ds d.kind a b [] d.fields = fieldsM ds d.kind a b (tagsF (d.fields.take j)) (d.fields.drop j)) (fun j f => setF f 54 (.int .i64 (j : Int)))
    (fun j => h ++ dH h d (tagsF (d.fields.take j))) ?_ (by simp [tagsF]) (by simp) (by simp [tagsF])
  intro j hj hs ih
  have hw := wrap_succ (i := j) (by omega)
  simp at ih
  by_cases hlt : j < d.fields.length
  · rw [fieldsM_step hlt] at hs
    simp [uf A45_l0.eq_1, hlt, Fld.av]
    refine w63 (S := tagsF (d.fields.take j)) (tm := h.length + 1) (nm := h.length + 2) (by simp [dH]) (by simp [dH]) (by simp [dH]) (by omega) (by omega) (by omega) (fun e => ?_) (fun e te ne => ?_) (fun e => ?_)
    · rw [if_pos (by omega), e] at hs
      simp
      refine ret_pure (by simp) ?_
      rw [if_pos (by omega), hs] at k; exact k
    · rw [if_pos (by omega), e] at hs
      simp [dH]
      refine ret_pure (by simp) ?_
      rw [if_pos (by omega), hs] at k; exact k
    · rw [if_neg (by omega)] at hs
      rw [tagsF_succ hlt] at hs ih
      simp [dH]
      refine w64 (get_app_old hc _) (T.app _) (hfo _ (List.getElem_mem hlt)) ?_
      by_cases he : fieldM ds d.kind d.fields[j] = 0
      · rw [if_neg (by omega)] at hs
        simp [he, hw]
        refine lp_cutA (A := dH h d _) (B := [AO.box _]) rfl (dH_bel h d _) ?_ (ih (by omega) hs)
        simp [dH, show c < h.length + 4 by omega]
      · rw [if_pos he] at hs
        simp [he]
        refine ret_pure (by simp) ?_
        rw [hs, if_pos he] at k; exact k
  · have : d.fields.drop j = [] := List.drop_eq_nil_of_le (by omega)
    rw [this, fieldsM] at hs
    rw [if_neg (by omega)] at k
    have htk : d.fields.take j = d.fields := List.take_of_length_le (by omega)
    rw [htk]
    simp [uf A45_l0.eq_1, uf A45_r1.eq_1, hlt, dH]
    have := w45_m (K := K) hc T hok' k
    simpa [dH] using this

theorem w45 {ds : List Decl} {c tb i : Nat} {h : List AO} {K : ARes → List AO → Prop} (hc : h[c]? = some (.box [.rsl (ds.map Decl.av), .ptr tb 0])) (T : IsTab h tb ds) (hi : i < ds.length) (hok : ds[i].ok) (k : K (.ok (.int .i64 (declM ds i ds[i]))) h) :
    W 45 [.ptr c 0, .int .i64 (i : Int)] h K := by
  have hc' := get_app_old hc
  obtain ⟨d, hd⟩ : ∃ d, d = ds[i] := ⟨_, rfl⟩
  obtain ⟨q, hq, hqi⟩ := fnd_le hi
  rw [← hd] at hq hok k
  refine W_of mixed c45 (by simp [A45]) ?_
  simp [A45, fillA, hc, hi, ← hd, Decl.av, hc']
  refine ⟨_, _, w12t (T.app _) ⟨rfl, rfl⟩, ?_⟩
  simp [fndR, hq]
  by_cases he : q = i
  · subst he
    have loop : ∀ (a b : Int), leastM d.kind = a → mostM d.kind = b → (d.kind = 1 ∨ d.kind = 2 ∨ d.kind = 3 ∨ d.kind = 4) →
        LP ⟨intPg Try.prog 0 .i64, h, [.t 4], K⟩ [0, 5, 8, 9, 10, 52, 53, 54] A45_l0 [.blk 1, .seq A45_r1]
          [(0, .ptr c 0), (5, .ptr h.length 0), (8, .int .i64 a), (9, .int .i64 b), (10, .ptr (h.length + 3) 0), (52, .rsl (d.fields.map Fld.av)), (53, .int .i64 (d.fields.length : Int)), (54, .int .i64 0)] (h ++ dH h d []) := by
      intro a b ha hb hk
      refine w45_f hc T hok ?_
      unfold declM at k
      rw [if_neg (by simp [hq]), if_neg (fun e => e hk), ha, hb] at k
      exact k
    by_cases c1 : d.kind = 1
    · have := loop 1 255 (by simp [leastM, c1]) (by simp [mostM, c1]) (.inl c1)
      simp [dH, tmap, nmap, c1] at this
      simp [c1, fillA]
      exact this
    by_cases c2 : d.kind = 2
    · have := loop 1 255 (by simp [leastM, c2]) (by simp [mostM, c2]) (.inr (.inl c2))
      simp [dH, tmap, nmap, c2] at this
      simp [c2, fillA]
      exact this
    by_cases c4 : d.kind = 4
    · have := loop 1 255 (by simp [leastM, c4]) (by simp [mostM, c4]) (.inr (.inr (.inr c4)))
      simp [dH, tmap, nmap, c4] at this
      simp [c4, fillA]
      exact this
    by_cases c3 : d.kind = 3
    · have := loop 0 9999 (by simp [leastM, c3]) (by simp [mostM, c3]) (.inr (.inr (.inl c3)))
      simp [dH, tmap, nmap, c3] at this
      simp [c3, fillA]
      exact this
    · simp [c1, c2, c3, c4]
      refine ret_pure (by simp) ?_
      unfold declM at k
      rw [if_neg (by simp [hq]), if_pos (by simp [c1, c2, c3, c4])] at k
      exact k
  · unfold declM at k
    rw [if_pos (by simp [hq, he])] at k
    have he' : ¬ (q : Int) = (i : Int) := by omega
    simp [he']
    exact ret_pure (by simp) k
end Go.Proofs.Ytjljhmeadfejhaa
