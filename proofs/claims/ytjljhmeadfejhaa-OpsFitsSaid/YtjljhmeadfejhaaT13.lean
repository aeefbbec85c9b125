/- Rows and methods of the checker, about the engine. -/
import Derived.Test.YtjljhmeadfejhaaT12
set_option maxRecDepth 100000
set_option linter.unusedVariables false
set_option linter.unusedSimpArgs false
namespace Go.Proofs.Ytjljhmeadfejhaa
open Go.Eng
/-! ### maps whose values are 1 -/
def tmap (S : List (Int × ByteArray)) : List (AV × AV) := S.map fun x => (.int .i64 x.1, .int .i64 1)
def nmap (S : List (Int × ByteArray)) : List (AV × AV) := S.map fun x => (.str x.2, .int .i64 1)
theorem find_upd {k v : AV} (hk : keyEq k k = some true) : ∀ {es es' : List (AV × AV)}, updA k v es = some es' → findA k es' = some (some v)
  | [], es', e => by injection e with e; subst e; simp only [findA, hk]
  | (a, u) :: r, es', e => by
    simp only [updA] at e
    split at e
    · injection e with e; subst e; simp only [findA, hk]
    · rename_i hb
      obtain ⟨r', h1, rfl⟩ := Option.map_eq_some_iff.1 e
      simp only [findA, hb]
      exact find_upd hk h1
    · cases e
theorem tmap_find (t : Int) : ∀ S : List (Int × ByteArray), findA (.int .i64 t) (tmap S) = some (if S.any (fun x => decide (x.1 = t)) then some (.int .i64 1) else none)
  | [] => rfl
  | x :: S => by
    have ih := tmap_find t S
    simp only [tmap] at ih ⊢
    simp only [List.map_cons, findA, keyEq, if_true, List.any_cons]
    by_cases h : t = x.1
    · simp [h]
    · have h' : ¬ x.1 = t := fun e => h e.symm
      simp only [h, h', decide_false, Bool.false_or]
      exact ih
theorem nmap_find (t : ByteArray) : ∀ S : List (Int × ByteArray), findA (.str t) (nmap S) = some (if S.any (fun x => decide (x.2 = t)) then some (.int .i64 1) else none)
  | [] => rfl
  | x :: S => by
    have ih := nmap_find t S
    simp only [nmap] at ih ⊢
    simp only [List.map_cons, findA, keyEq, List.any_cons]
    by_cases h : t = x.2
    · simp [h]
    · have h' : ¬ x.2 = t := fun e => h e.symm
      simp only [h, h', decide_false, Bool.false_or]
      exact ih
theorem tmap_upd (t : Int) (v : AV) : ∀ S : List (Int × ByteArray), ∃ es', updA (.int .i64 t) v (tmap S) = some es' ∧ (S.any (fun x => decide (x.1 = t)) = false → es' = tmap S ++ [(.int .i64 t, v)])
  | [] => ⟨_, rfl, fun _ => rfl⟩
  | x :: S => by
    obtain ⟨es', h1, h2⟩ := tmap_upd t v S
    simp only [tmap] at h1 h2 ⊢
    simp only [List.map_cons, updA, keyEq, if_true, List.any_cons]
    by_cases h : t = x.1
    · simp [h]
    · have h' : ¬ x.1 = t := fun e => h e.symm
      simp only [h, h', decide_false, Bool.false_or, h1, Option.map_some]
      exact ⟨_, rfl, fun e => by rw [h2 e]; rfl⟩
theorem nmap_upd (t : ByteArray) (v : AV) : ∀ S : List (Int × ByteArray), ∃ es', updA (.str t) v (nmap S) = some es' ∧ (S.any (fun x => decide (x.2 = t)) = false → es' = nmap S ++ [(.str t, v)])
  | [] => ⟨_, rfl, fun _ => rfl⟩
  | x :: S => by
    obtain ⟨es', h1, h2⟩ := nmap_upd t v S
    simp only [nmap] at h1 h2 ⊢
    simp only [List.map_cons, updA, keyEq, List.any_cons]
    by_cases h : t = x.2
    · simp [h]
    · have h' : ¬ x.2 = t := fun e => h e.symm
      simp only [h, h', decide_false, Bool.false_or, h1, Option.map_some]
      exact ⟨_, rfl, fun e => by rw [h2 e]; rfl⟩
theorem wrap_two : IntKind.i64.wrap 2 = 2 := by decide
theorem wrap_one : IntKind.i64.wrap 1 = 1 := by decide

theorem w63 {h : List AO} {s tm nm : Nat} {S : List (Int × ByteArray)} {tag least most : Int} {name : ByteArray} {K : ARes → List AO → Prop} (hs : h[s]? = some (.box [.map tm, .map nm])) (ht : h[tm]? = some (.map (tmap S))) (hn : h[nm]? = some (.map (nmap S)))
    (h1 : s ≠ tm) (h2 : s ≠ nm) (h3 : tm ≠ nm) (k9 : rowM S tag name least most = 9 → K (.ok (.int .i64 9)) h) (k7 : rowM S tag name least most = 7 → ∀ te ne, K (.ok (.int .i64 7)) ((h.set tm (.map te)).set nm (.map ne)))
    (k0 : rowM S tag name least most = 0 → K (.ok (.int .i64 0)) ((h.set tm (.map (tmap (S ++ [(tag, name)])))).set nm (.map (nmap (S ++ [(tag, name)]))))) :
    W 63 [.ptr s 0, .int .i64 tag, .str name, .int .i64 least, .int .i64 most] h K := by
  have lt := (List.getElem?_eq_some_iff.1 ht).1
  have ln := (List.getElem?_eq_some_iff.1 hn).1
  have a1 : ∀ x, (h.set tm x)[tm]? = some x := fun x => List.getElem?_set_self lt
  have a2 : ∀ x y, ((h.set tm x).set nm y)[nm]? = some y := fun x y => List.getElem?_set_self (by simpa using ln)
  clear lt ln
  refine W_of mixed c63 (by simp [A63]) ?_
  by_cases c1 : tag < least
  · simp [A63, c1]
    exact .inl (k9 (by simp [rowM, c1]))
  · by_cases c2 : most < tag
    · simp [A63, c1, c2]
      exact .inl (k9 (by simp [rowM, c1, c2]))
    · have hr : ∀ S : List (Int × ByteArray), S.any (fun x => decide (x.1 = tag) || decide (x.2 = name)) = (S.any (fun x => decide (x.1 = tag)) || S.any (fun x => decide (x.2 = name))) := by
        intro S
        induction S with
        | nil => rfl
        | cons x S ih => simp only [List.any_cons, ih]; cases decide (x.1 = tag) <;> cases decide (x.2 = name) <;> simp
      have hR : rowM S tag name least most = if (S.any (fun x => decide (x.1 = tag)) || S.any (fun x => decide (x.2 = name))) = true then 7 else 0 := by simp only [rowM, c1, c2, hr, or_self, if_false]
      have ft := tmap_find tag S
      have fn := nmap_find name S
      have e1 : (AV.int .i64 tag, AV.int .i64 1) = (AV.int .i64 (tag, name).1, AV.int .i64 1) := rfl
      have tmap_snoc : tmap S ++ [(.int .i64 tag, .int .i64 1)] = tmap (S ++ [(tag, name)]) := by simp [tmap]
      have nmap_snoc : nmap S ++ [(.str name, .int .i64 1)] = nmap (S ++ [(tag, name)]) := by simp [nmap]
      cases b1 : S.any (fun x => decide (x.1 = tag)) with
      | true =>
        obtain ⟨te, u1, _⟩ := tmap_upd tag (.int .i64 2) S
        have f1 := find_upd (k := .int .i64 tag) (by simp [keyEq]) u1
        rw [b1] at ft hR
        cases b2 : S.any (fun x => decide (x.2 = name)) with
        | true =>
          obtain ⟨ne, u2, _⟩ := nmap_upd name (.int .i64 2) S
          have f2 := find_upd (k := .str name) (by simp [keyEq]) u2
          rw [b2] at fn hR
          simp [A63, c1, c2, hs, ht, hn, h1, h2, h3, Ne.symm h1, Ne.symm h2, Ne.symm h3, a1, a2, ft, fn, u1, u2, f1, f2, wrap_two, -findA, -updA]
          exact .inl (k7 hR te ne)
        | false =>
          obtain ⟨ne, u2, _⟩ := nmap_upd name (.int .i64 1) S
          have f2 := find_upd (k := .str name) (by simp [keyEq]) u2
          rw [b2] at fn hR
          simp [A63, c1, c2, hs, ht, hn, h1, h2, h3, Ne.symm h1, Ne.symm h2, Ne.symm h3, a1, a2, ft, fn, u1, u2, f1, f2, wrap_two, wrap_one, -findA, -updA]
          exact .inl (k7 hR te ne)
      | false =>
        obtain ⟨te, u1, v1⟩ := tmap_upd tag (.int .i64 1) S
        have f1 := find_upd (k := .int .i64 tag) (by simp [keyEq]) u1
        have v1 := v1 b1
        rw [b1] at ft hR
        cases b2 : S.any (fun x => decide (x.2 = name)) with
        | true =>
          obtain ⟨ne, u2, _⟩ := nmap_upd name (.int .i64 2) S
          have f2 := find_upd (k := .str name) (by simp [keyEq]) u2
          rw [b2] at fn hR
          simp [A63, c1, c2, hs, ht, hn, h1, h2, h3, Ne.symm h1, Ne.symm h2, Ne.symm h3, a1, a2, ft, fn, u1, u2, f1, f2, wrap_two, wrap_one, -findA, -updA]
          exact .inl (k7 hR te ne)
        | false =>
          obtain ⟨ne, u2, v2⟩ := nmap_upd name (.int .i64 1) S
          have f2 := find_upd (k := .str name) (by simp [keyEq]) u2
          have v2 := v2 b2
          rw [b2] at fn hR
          simp [A63, c1, c2, hs, ht, hn, h1, h2, h3, Ne.symm h1, Ne.symm h2, Ne.symm h3, a1, a2, ft, fn, u1, u2, f1, f2, wrap_two, wrap_one, -findA, -updA]
          rw [v1, v2, tmap_snoc, nmap_snoc]
          exact .inl (k0 hR)

theorem w65 {h : List AO} {c tb : Nat} {L : AV} {ds : List Decl} {m : Mth} {K : ARes → List AO → Prop} (hc : h[c]? = some (.box [L, .ptr tb 0])) (T : IsTab h tb ds) (k : K (.ok (.int .i64 (methodM ds m))) h) :
    W 65 [.ptr c 0, .agg [.int .i64 m.tag, .str m.name, .str m.inn, .str m.out, .bool m.oneWay]] h K := by
  have hc' := get_app_old hc
  refine W_of mixed c65 (by simp [A65]) ?_
  simp [A65]
  refine lp_step ?_
  simp [uf A65_l0.eq_1, hc']
  refine w12t (T.app _) ?_
  unfold methodM strM at k
  cases hf : fnd m.inn ds with
  | none =>
    simp [fndR, hf]
    refine ret_pure (by simp) ?_
    simpa [hf] using k
  | some i =>
    simp [fndR, hf, hc']
    refine w14t (T.app _) ?_
    by_cases hk : kindR m.inn ds = 1
    · simp [hk, wrap_one]
      refine lp_step ?_
      simp [uf A65_l0.eq_1, hc']
      refine w12t (T.app _) ?_
      cases hf2 : fnd m.out ds with
      | none =>
        simp [fndR, hf2]
        refine ret_pure (by simp) ?_
        simpa [hf, hf2, hk] using k
      | some j =>
        simp [fndR, hf2, hc']
        refine w14t (T.app _) ?_
        by_cases hk2 : kindR m.out ds = 1
        · simp [hk2, wrap_two]
          refine lp_step ?_
          simp [uf A65_l0.eq_1, uf A65_r0.eq_1]
          refine ret_pure (by simp) ?_
          simpa [hf, hf2, hk, hk2] using k
        · simp [hk2]
          refine ret_pure (by simp) ?_
          simpa [hf, hf2, hk, hk2] using k
    · simp [hk]
      refine ret_pure (by simp) ?_
      simpa [hf, hk] using k
end Go.Proofs.Ytjljhmeadfejhaa
