/- BlankLeast, about the engine. -/
import Derived.Test.YtjljhmeadfejhaaGreatB12
import Derived.Test.YtjljhmeadfejhaaGreatX1
import Derived.Test.YtjljhmeadfejhaaGreatG2
set_option maxRecDepth 100000
set_option linter.unusedVariables false
set_option linter.unusedSimpArgs false
namespace Go.Proofs.YtjljhmeadfejhaaGreat
open Go.Eng
theorem z_methodsTail {ds : List Decl} {i : Nat} {d : Decl} (h : declM ds i d = 0) (hk : d.kind = 2 ∨ d.kind = 3) : d.fields ≠ [] := by
  unfold declM at h
  split at h
  · cases h
  · split at h
    · cases h
    · split at h
      · rename_i h2; exact absurd h h2
      · split at h
        · rename_i h3; exact absurd h h3
        · split at h
          · cases h
          · rename_i h4
            exact fun e => h4 ⟨hk, e⟩
theorem fldsOf_some {ds : List Decl} {s : ByteArray} {n : Nat} (hf : fnd s ds = some n) : fldsOf ds s = (ds[n]'(fnd_lt hf)).fields := by
  simp [fldsOf, hf, fnd_lt hf]
theorem kindR_some {ds : List Decl} {s : ByteArray} {n : Nat} (hf : fnd s ds = some n) : kindR s ds = (ds[n]'(fnd_lt hf)).kind := by
  simp [kindR, hf, fnd_lt hf]
theorem fldsOf_none {ds : List Decl} {s : ByteArray} (hf : fnd s ds = none) : fldsOf ds s = [] := by
  simp [fldsOf, hf]
theorem good_of {ds : List Decl} (hl : ds.length < 1099511627776) (hok : ∀ d ∈ ds, d.ok) (hfit : ∀ d ∈ ds, d.fit) (hc : (checkM ds).1 = 0) : Good ds ∧ Typed ds := by
  have parts : ∀ (n : Nat) (hn : n < ds.length), (∀ f ∈ ds[n].fields, 0 ≤ f.tag ∧ fieldM ds ds[n].kind f = 0) ∧ ds[n].fields.Pairwise (fun a b => a.tag ≠ b.tag) := by
    intro n hn
    obtain ⟨_, h2⟩ := z_declM_zero (z_checkM_declM hc n hn)
    obtain ⟨q1, q2⟩ := z_fieldsM_zero h2
    refine ⟨fun f hf => ?_, q2⟩
    obtain ⟨a, b, c, _⟩ := q1 f hf
    refine ⟨?_, c⟩
    unfold leastM at a
    split at a <;> omega
  have R : Rowed ds :=
    { len := hl
      ok := hok
      dist := fun s => by
        cases hf : fnd s ds with
        | none => rw [fldsOf_none hf]; exact List.Pairwise.nil
        | some n => rw [fldsOf_some hf]; exact (parts n (fnd_lt hf)).2
      low := fun s f hm => by
        cases hf : fnd s ds with
        | none => rw [fldsOf_none hf] at hm; simp at hm
        | some n => rw [fldsOf_some hf] at hm; exact ((parts n (fnd_lt hf)).1 f hm).1
      few := fun s => by
        cases hf : fnd s ds with
        | none => rw [fldsOf_none hf]; simp
        | some n => rw [fldsOf_some hf]; exact (hfit _ (List.getElem_mem (fnd_lt hf))).1 }
  refine ⟨⟨told_of hl hok hfit hc, R, fun s hk => ?_⟩, ⟨fun s f hk hm => ?_⟩⟩
  · cases hf : fnd s ds with
    | none => simp [kindR, hf] at hk
    | some n =>
      rw [kindR_some hf] at hk
      rw [fldsOf_some hf]
      exact z_methodsTail (z_checkM_declM hc n (fnd_lt hf)) (.inr hk)
  · cases hf : fnd s ds with
    | none => rw [fldsOf_none hf] at hm; simp at hm
    | some n =>
      rw [kindR_some hf] at hk
      rw [fldsOf_some hf] at hm
      have := ((parts n (fnd_lt hf)).1 f hm).2
      unfold fieldM at this
      rw [if_neg (by omega)] at this
      split at this
      · rename_i h; exact absurd this h
      · rename_i h; simpa using h
theorem rowed_nil : Rowed [] :=
  { len := by simp
    ok := fun d hd => by simp at hd
    dist := fun s => List.Pairwise.nil
    low := fun s f hf => by simp [fldsOf, fnd] at hf
    few := fun s => by simp [fldsOf, fnd] }
mutual
theorem great_depth : ∀ (v : Val) (deep : Int), 0 ≤ deep → greatM v deep = false → deep + (v.depth : Int) ≤ 41
  | .mk k n s l vs, deep, h0, h => by
    rw [greatM] at h
    split at h
    · cases h
    · rename_i hn
      have h1 : deep ≤ 40 := by omega
      have h2 : (vs.length : Int) ≤ 60 := by omega
      have hdn : deep + 1 ≤ deepN deep vs.length ∧ 0 ≤ deepN deep vs.length := by
        have e1 : IntKind.i64.wrap ((vs.length : Int) / 4) = (vs.length : Int) / 4 := wrap_i64 _ (by omega) (by omega)
        have e2 : IntKind.i64.wrap (deep + 1) = deep + 1 := wrap_i64 _ (by omega) (by omega)
        have e3 : IntKind.i64.wrap (deep + 1 + (vs.length : Int) / 4) = deep + 1 + (vs.length : Int) / 4 := wrap_i64 _ (by omega) (by omega)
        unfold deepN
        rw [e1, e2, e3]
        omega
      have := great_depthL vs (deepN deep vs.length) 0 hdn.2 h
      rw [Val.depth]
      rcases Nat.eq_zero_or_pos (Val.depthL vs) with e | e
      · rw [e]; omega
      · have := this e; omega
theorem great_depthL : ∀ (vs : List Val) (d m : Int), 0 ≤ d → greatL d m vs = false → 0 < Val.depthL vs → d + (Val.depthL vs : Int) ≤ 41
  | [], d, m, h0, h, hp => by simp [Val.depthL] at hp
  | v :: vs, d, m, h0, h, hp => by
    rw [greatL] at h
    split at h
    · cases h
    · rename_i hv
      have h1 := great_depth v d h0 (by simpa using hv)
      rw [Val.depthL] at hp ⊢
      rcases Nat.eq_zero_or_pos (Val.depthL vs) with e | e
      · rw [e]; omega
      · have := great_depthL vs d _ h0 h e; omega
end
theorem txt_of : ∀ (n : Nat) (v : Val), SizeOf.sizeOf v ≤ n → v.ok → v.txt
  | 0, v, h, _ => by cases v; simp at h
  | n + 1, v, h, hok => by
    obtain ⟨_, _, h3, _, _, _, h7⟩ := Val.parts hok
    refine .mk v ?_ fun u hu => txt_of n u (by have := Val.lt_of_mem hu; omega) (h7 u hu)
    simp only [reachBytes] at h3
    omega
end Go.Proofs.YtjljhmeadfejhaaGreat
