/- blank, about the engine: the whole. -/
import Derived.Test.YtjljhmeadfejhaaGreatB9
set_option maxRecDepth 100000
set_option linter.unusedVariables false
set_option linter.unusedSimpArgs false
namespace Go.Proofs.YtjljhmeadfejhaaGreat
open Go.Eng
structure Good (ds : List Decl) : Prop where
  told : Told ds
  rowed : Rowed ds
  enum : ∀ s, kindR s ds = 3 → fldsOf ds s ≠ []
theorem sort_mem {l : List Fld} {f : Fld} : f ∈ sortT l ↔ f ∈ l := (sortT_perm l).mem_iff
theorem w101 {ds : List Decl} (G : Good ds) {mi : Nat} : ∀ (d : Nat), d < 100 → ∀ (m : Nat) (t : Ty), SizeOf.sizeOf t ≤ m → t.ok → ∀ (h : List AO) (K : ARes → List AO → Prop), Mk h mi ds → K (.ok (outR (byM ds d t))) h → W 101 [.ptr mi 0, targ t, .int .i64 (d : Int)] h K := by
  intro d
  induction d with
  | zero =>
    intro _ m t _ _ h K _ k
    refine W_of mixed c101 (by simp [A101]) ?_
    simp [A101, fillA, setL]
    exact .inr ⟨h.length, 3, _, DropOk.app h _, by simp [out, mapO]; rfl, by simpa using (show K (.ok (.tup [.agg [.int .i64 0, .int .i64 0, .str ⟨#[]⟩, .esl, .esl], .bool false])) h from k)⟩
  | succ d IHd =>
    intro hd m
    have hd1 : ¬ ((d : Int) + 1 < 1) := by omega
    have wd : (((d + 1 : Nat) : Int)) = (d : Int) + 1 := by omega
    induction m with
    | zero => intro t ht; cases t; simp at ht
    | succ m IHm =>
      intro t ht hto h K M k
      have hoks : ∀ u ∈ t.of, u.ok := by cases t; exact (Ty.okL_iff _).1 hto.2.2.2
      have htlen : t.of.length < most := by cases t; exact hto.2.2.1
      have k : K (.ok (outR (byT (byM ds d) ds t))) h := k
      rw [byT_eq] at k
      refine W_of mixed c101 (by simp [A101]) ?_
      by_cases h6 : t.kind = 6
      · rw [if_pos h6] at k
        obtain ⟨di, hm1, hm2⟩ := M
        have hmi := (List.getElem?_eq_some_iff.1 hm1).1
        have am : ∀ X : List AO, (h ++ X)[mi]? = some (.box [.ptr di 0]) := fun X => by rw [List.getElem?_append_left hmi]; exact hm1
        have aR : ∀ X : List AO, ReadyD (h ++ X) di ds := fun X => hm2.app X
        obtain ⟨rows, hrows⟩ : ∃ rows, rows = sortT (fldsOf ds t.name) := ⟨_, rfl⟩
        have hrl : rows.length ≤ 30 := by rw [hrows, (sortT_perm _).length_eq]; exact G.rowed.few _
        have hrm : ∀ f ∈ rows, f.ok := fun f hf => fldsOf_ok G.rowed.ok (sort_mem.1 (by rw [← hrows]; exact hf))
        have each : ∀ f ∈ rows, ∀ (Y X : List AO) (K : ARes → List AO → Prop), K (.ok (outR (byM ds d f.ty))) (h ++ Y ++ X) → W 101 [.ptr mi 0, targ f.ty, .int .i64 (d : Int)] (h ++ Y ++ X) K :=
          fun f hf Y X K k => IHd (by omega) _ f.ty (Nat.le_refl _) (hrm f hf).2.2 _ K ⟨di, by rw [List.append_assoc]; exact am _, by rw [List.append_assoc]; exact aR _⟩ k
        unfold namedB at k
        rw [← hrows] at k
        simp [A101, h6, wd, hd1, am]
        refine ⟨_, _, wDRowsR G.told (G.rowed.dist _) (aR _) ⟨rfl, rfl⟩, ?_⟩
        rw [← hrows]
        simp [am]
        refine ⟨_, _, wDKindR (aR _) ⟨rfl, rfl⟩, ?_⟩
        by_cases k3 : kindR t.name ds = 3
        · rw [if_pos k3] at k
          have hne : rows ≠ [] := fun e => G.enum _ k3 (by
            have := (sortT_perm (fldsOf ds t.name)).length_eq
            rw [← hrows, e] at this
            exact List.eq_nil_of_length_eq_zero this.symm)
          have hne' : rows.map Fld.av ≠ [] := by simpa using hne
          obtain ⟨r, rs, hr⟩ := List.exists_cons_of_ne_nil hne
          rw [hr] at k
          rw [rowV_ne hne', hr]
          simp [k3, Fld.av, fillA, setL]
          exact .inr ⟨h.length, 3, _, DropOk.app h _, by simp [out, mapO]; rfl, by simpa using (show K (.ok (.tup [.agg [.int .i64 6, .int .i64 r.tag, .str ⟨#[]⟩, .esl, .esl], .bool true])) h from k)⟩
        · rw [if_neg k3] at k
          by_cases k1 : kindR t.name ds = 1
          · rw [if_pos k1] at k
            simp [k1]
            refine w153 hrl (fun f hf X K k => each f hf _ X K k) (by omega) (by simp; omega) ?_
            simp [outR, resC]
            exact .inr ⟨h.length, 3, _, DropOk.app h _, by simp [out, mapO]; rfl, by rw [List.take_left]; exact k⟩
          · rw [if_neg k1] at k
            by_cases k2 : kindR t.name ds = 2
            · rw [if_pos k2] at k
              simp [k2]
              refine w154 hrl (fun f hf X K k => each f hf _ X K k) (by omega) (by simp; omega) ?_
              simp [outR, resC]
              exact .inr ⟨h.length, 3, _, DropOk.app h _, by simp [out, mapO]; rfl, by rw [List.take_left]; exact k⟩
            · rw [if_neg k2] at k
              simp [k1, k2, k3, fillA, setL]
              exact .inr ⟨h.length, 3, _, DropOk.app h _, by simp [out, mapO]; rfl, by simpa using (show K (.ok (.tup [.agg [.int .i64 0, .int .i64 0, .str ⟨#[]⟩, .esl, .esl], .bool false])) h from k)⟩
      · rw [if_neg h6] at k
        have eB : optB (byM ds (d + 1)) t.of = byTL (byM ds d) ds t.of := by
          match t.of with
          | [] => rfl
          | [u] => rw [byTL, if_pos rfl]; rfl
          | a :: b :: c => rw [byTL, if_neg (by simp)]; rfl
        simp [A101, h6, wd, hd1]
        have w0 := fun (K : ARes → List AO → Prop) => w152 (K := K) (d := d + 1) (t := t) htlen (o := byM ds (d + 1)) h6 (h := h ++ [.box [.int .i64 t.kind, .str t.name, .rsl (t.of.map Ty.av)], .box [.int .i64 0, .int .i64 0, .str ⟨#[]⟩, .esl, .esl]]) (mi := mi)
          (fun u hu X K k => IHm u (by have := Ty.lt_of (t := t) (u := u) (by rw [hu]; simp); omega) (hoks u (by rw [hu]; simp)) _ K (by rw [List.append_assoc]; exact M.app _) k)
        rw [wd] at w0
        refine w0 _ ?_
        rw [eB]
        simp [outR, resC]
        exact .inr ⟨h.length, 3, _, DropOk.app h _, by simp [out, mapO]; rfl, by rw [List.take_left]; exact k⟩
end Go.Proofs.YtjljhmeadfejhaaGreat
