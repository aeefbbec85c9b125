/- The engine, part 13: make; all plain operations together. -/
import Derived.Test.YtjljhmeadfejhaaE12
import Derived.Laws.LoneSync
set_option linter.unusedVariables false
set_option linter.unusedSimpArgs false
namespace Go.Eng
section
variable {P : Program} {o : Oper} {a : Act} {h : List AO} {φ : Nat → Loc} {w : World} {S : Nat → Nat → Prop} {f : Fr} {x : AV} {h' : List AO}

theorem flat_rep (zs : List AV) (hz : 0 < zs.length) : ∀ (n : Nat), (List.replicate n zs).flatten.length = n * zs.length ∧ ∀ (j : Nat), j < n * zs.length → (List.replicate n zs).flatten[j]? = zs[j % zs.length]?
  | 0 => ⟨by simp, fun j hj => by omega⟩
  | n + 1 => by
    obtain ⟨k1, k2⟩ := flat_rep zs hz n
    rw [List.replicate_succ, List.flatten_cons]
    refine ⟨by simp [k1, Nat.succ_mul, Nat.add_comm], fun j hj => ?_⟩
    rw [Nat.succ_mul] at hj
    rcases Nat.lt_or_ge j zs.length with h | h
    · rw [List.getElem?_append_left h, Nat.mod_eq_of_lt h]
    · rw [List.getElem?_append_right h, k2 _ (by omega), Nat.mod_eq_sub_mod h]

theorem wrap_i64 (n : Int) (h0 : 0 ≤ n) (h1 : n < 9223372036854775808) : IntKind.i64.wrap n = n := IntWalk.i64_in n (by omega)

theorem fine_mksl (M : Sim h φ w S) (F : FRel h φ w S f a) {t e : TypeId} {i : TypeInfo} {y z : Operand} {p q : Opnd} {zs : List AV} (ho : o.op = .makeSlice t y z) (hu : P.underlying t = some (.slice e)) (hi : P.info? e = some i) (hz : zeroL P e = some zs) (e1 : cO y = some p) (e2 : cO z = some q)
    (he : evP f h (.mksl i.size i.bytes zs p q) = some (x, h')) : Fine P o a h φ w S x h' := by
  have r1 := rel_ev F e1
  have r2 := rel_ev F e2
  obtain ⟨zv, hzv, hcv⟩ : ∃ zv, i.zero = some zv ∧ cvL zv.cells.toList = some zs := by
    unfold zeroL at hz
    rw [hi] at hz
    simp only at hz
    split at hz
    · exact ⟨_, by assumption, hz⟩
    · cases hz
  simp only [evP] at he
  split at he
  case h_2 => cases he
  rename_i n m hx hy
  rw [hx] at r1; rw [hy] at r2
  have u1 := rel_int_inv r1
  have u2 := rel_int_inv r2
  split at he
  case isFalse => cases he
  rename_i hc
  obtain ⟨c1, c2, c3, c4, c5, c6, c7⟩ := hc
  injection he with he; injection he with h1 h2; subst h1 h2
  obtain ⟨k1, k2, k3⟩ := rel_cvL (h := h) (φ := φ) (w := w) (S := S) hcv true
  have hzsz : zv.cells.size = i.size := by rw [← c5, k1]; simp
  have hpos : 0 < zs.length := by omega
  obtain ⟨f1, f2⟩ := flat_rep zs hpos m.toNat
  let arr : Array Value := (Array.range (m.toNat * i.size)).map (zv.cells[· % zv.cells.size]!)
  have harr : arr.size = m.toNat * i.size := by simp [arr]
  have hcell : ∀ (j : Nat), j < m.toNat * i.size → arr[j]? = zv.cells[j % i.size]? := by
    intro j hj
    have h2 : j % i.size < zv.cells.size := by rw [hzsz]; exact Nat.mod_lt _ c4
    simp only [arr, Array.getElem?_map, Array.getElem?_range, hj, if_true, Option.map_some, hzsz]
    rw [getElem!_pos zv.cells _ h2]
    simp [h2]
  obtain ⟨s1, s2⟩ := sim_box M (List.replicate m.toNat zs).flatten arr e (by rw [f1, harr, c5]) (fun j y hy => by
      have hj : j < m.toNat * zs.length := by rw [← f1]; exact (List.getElem?_eq_some_iff.1 hy).1
      rw [f2 j hj] at hy
      exact k2 _ y hy) (fun j y u hy hu => by
      have hj : j < m.toNat * zs.length := by rw [← f1]; exact (List.getElem?_eq_some_iff.1 hy).1
      rw [f2 j hj] at hy
      rw [hcell j (by rw [← c5]; exact hj), ← c5] at hu
      exact k3 _ y u hy (by simpa using hu))
  refine ⟨.slice (some ⟨w.heap.size, 0, none⟩) n.toNat m.toNat, w.alloc (.cells arr e), _, _, .inl ?_, s1, s2, ?_⟩
  · have w1 := wrap_i64 n c1 (by omega)
    have w2 := wrap_i64 m (by omega) (by omega)
    have ht : ¬ (i.bytes : Int) * m > 2 ^ 48 := by rw [Int.mul_comm]; omega
    have ht1 : ¬ m < 0 := by omega
    have ht2 : ¬ n < 0 := by omega
    have ht3 : ¬ n > m := by omega
    simp only [execOp, ho, Instr.makeSlice, Sem.run_bind, run_underlying hu, Result.andThen_ok, u1, u2, asInt, asIntOf, Sem.run_pure, typeInfo, run_program, hi, w1, w2]
    simp only [show (decide (m < 0) || decide ((i.bytes : Int) * m > 2 ^ 48) || decide (n < 0) || decide (n > m)) = false by simp [ht, ht1, ht2, ht3]; omega, Bool.false_eq_true, if_false, Sem.run_bind, run_askRoom, Result.andThen_ok, Go.sizeOf, typeInfo, run_program, hi, Sem.run_pure]
    by_cases h0 : m.toNat * i.size = 0
    · simp [h0, newRow]
      congr 1
      simp [arr, h0]
    · simp [h0, newRow, zeroValue, typeInfo, hi, hzv]
      congr 1
  · have := Rel.msl (h := h ++ [.box (List.replicate m.toNat zs).flatten]) (φ := updφ φ h.length ⟨w.heap.size, 0⟩) (w := w.alloc (.cells arr e)) (S := S) h.length 0 n.toNat m.toNat m.toNat ⟨.box (List.replicate m.toNat zs).flatten, by simp, rfl⟩ (Nat.le_refl _)
    simpa using this

theorem fine_cvp (M : Sim h φ w S) (F : FRel h φ w S f a) {s d t : TypeId} {y : Operand} {p : Opnd} (ho : o.op = .convert s d y) (hu : P.underlying s = some (.pointer t)) (hu2 : P.underlying d = some .unsafePointer)
    (hsz : (P.info? t).map (fun i => decide (i.size = 0)) = some false) (e : cO y = some p) (he : evP f h (.cvp p) = some (x, h')) : Fine P o a h φ w S x h' := by
  have r := rel_ev F e
  simp only [evP] at he
  split at he
  case h_2 => cases he
  rename_i i off hx
  split at he
  case h_2 => cases he
  rename_i cs hb
  split at he
  case isFalse => cases he
  rename_i hlt
  injection he with he; injection he with h1 h2; subst h1 h2
  rw [hx] at r
  generalize hv : a.eval y = v at r
  cases r with
  | ptr _ _ hi =>
    obtain ⟨arr, T, k1, k2, k3, k4, k5⟩ := M.obj i _ hb
    have hc : w.cell? ⟨(φ i).blk, off, none⟩ = some (arr[off]'(by omega)) := by
      simp only [World.cell?, k1]
      simp [show off < arr.size by omega]
    exact fine_pure M (v := .pointer (some ⟨(φ i).blk, off, none⟩)) (by simp [execOp, ho, hv, run_convert_to_unsafe hu hu2 hsz hc]) (.ptr i off hi)
theorem fine_min (M : Sim h φ w S) (F : FRel h φ w S f a) {c : Call} {y z : Operand} {p q : Opnd} (ho : o.op = .call c) (hc : c.callee = .builtin .min) (ha : c.args = #[y, z]) (e1 : cO y = some p) (e2 : cO z = some q)
    (he : evP f h (.mm false p q) = some (x, h')) : Fine P o a h φ w S x h' := by
  have r1 := rel_ev F e1
  have r2 := rel_ev F e2
  simp only [evP] at he
  split at he
  case h_2 => cases he
  rename_i k n k' m hx hy
  rw [hx] at r1; rw [hy] at r2
  have u1 := rel_int_inv r1
  have u2 := rel_int_inv r2
  split at he
  case isFalse => cases he
  rename_i hk
  subst hk
  injection he with he; injection he with h1 h2; subst h1 h2
  simp only [Bool.false_eq_true, if_false]
  exact fine_pure M (by simp [execOp, ho, resolve, hc, ha, invoke, builtin, Builtin.min_, Builtin.min2, u1, u2]) (.int _ _ _)
theorem fine_max (M : Sim h φ w S) (F : FRel h φ w S f a) {c : Call} {y z : Operand} {p q : Opnd} (ho : o.op = .call c) (hc : c.callee = .builtin .max) (ha : c.args = #[y, z]) (e1 : cO y = some p) (e2 : cO z = some q)
    (he : evP f h (.mm true p q) = some (x, h')) : Fine P o a h φ w S x h' := by
  have r1 := rel_ev F e1
  have r2 := rel_ev F e2
  simp only [evP] at he
  split at he
  case h_2 => cases he
  rename_i k n k' m hx hy
  rw [hx] at r1; rw [hy] at r2
  have u1 := rel_int_inv r1
  have u2 := rel_int_inv r2
  split at he
  case isFalse => cases he
  rename_i hk
  subst hk
  injection he with he; injection he with h1 h2; subst h1 h2
  simp only [if_true]
  exact fine_pure M (by simp [execOp, ho, resolve, hc, ha, invoke, builtin, Builtin.max_, Builtin.max2, u1, u2]) (.int _ _ _)

theorem evP_sound {ao : AOp} (hc : cOp P o = some ao) (he : evP f h ao = some (x, h')) (M : Sim h φ w S) (F : FRel h φ w S f a) : Fine P o a h φ w S x h' := by
  unfold cOp at hc
  split at hc
  · rename_i y ho
    obtain ⟨p, hp, rfl⟩ := Option.map_eq_some_iff.1 hc
    injection he with he; injection he with h1 h2; subst h1 h2
    exact fine_move M F (.inl ho) hp
  · rename_i y ho
    obtain ⟨p, hp, rfl⟩ := Option.map_eq_some_iff.1 hc
    injection he with he; injection he with h1 h2; subst h1 h2
    exact fine_move M F (.inr ho) hp
  · rename_i ho
    split at hc
    case h_2 => cases hc
    rename_i e1 e2 e3
    injection hc with hc; subst hc
    exact fine_pick M F ho e1 e2 e3 he
  · rename_i ho
    obtain ⟨zs, hz, rfl⟩ := Option.map_eq_some_iff.1 hc
    injection he with he; injection he with h1 h2; subst h1 h2
    exact fine_alloc M ho hz
  · rename_i ho
    obtain ⟨p, hp, rfl⟩ := Option.map_eq_some_iff.1 hc
    simp only [evP] at he
    split at he
    case isFalse => cases he
    rename_i h1
    injection he with he; injection he with h2 h3; subst h2 h3
    exact fine_box M F ho hp h1
  · rename_i ho
    split at hc
    case h_2 => cases hc
    rename_i hu hz
    split at hc
    case isFalse => cases hc
    rename_i hall
    obtain ⟨l, hl, rfl⟩ := Option.map_eq_some_iff.1 hc
    simp only [evP] at he
    have hp0 := p0_some he; clear he; obtain ⟨he, rfl⟩ := hp0
    obtain ⟨out, he2, rfl⟩ := Option.map_eq_some_iff.1 he
    exact fine_build M F ho hu hz hl (fun f hf => List.all_eq_true.1 hall f hf) he2
  · rename_i ho
    split at hc
    case h_2 => cases hc
    rename_i hu
    split at hc
    case h_2 => cases hc
    rename_i hsz hl hz
    split at hc
    case isFalse => cases hc
    rename_i hn
    injection hc with hc; subst hc
    exact fine_lit M F ho hu hsz hl hz hn he
  · rename_i ho
    split at hc
    case h_2 => cases hc
    rename_i ek e1
    injection hc with hc; subst hc
    simp only [evP] at he
    split at he
    case h_2 => cases he
    rename_i hcs
    have hp0 := p0_some he; clear he; obtain ⟨he, rfl⟩ := hp0
    exact fine_load M F ho ek e1 hcs he
  · rename_i ho
    split at hc
    case h_2 => cases hc
    rename_i en e1 e2
    injection hc with hc; subst hc
    simp only [evP] at he
    obtain ⟨h2, he2, hh⟩ := Option.map_eq_some_iff.1 he
    injection hh with h3 h4; subst h3 h4
    exact fine_store M F ho en e1 e2 he2
  · rename_i ho
    obtain ⟨p, hp, rfl⟩ := Option.map_eq_some_iff.1 hc
    exact fine_nilck M F ho hp he
  · rename_i ho
    split at hc
    case h_2 => cases hc
    rename_i e1 e2
    injection hc with hc; subst hc
    simp only [evP] at he
    have hp0 := p0_some he; clear he; obtain ⟨he, rfl⟩ := hp0
    exact fine_bin M F ho e1 e2 he
  · rename_i ho
    obtain ⟨p, hp, rfl⟩ := Option.map_eq_some_iff.1 hc
    simp only [evP] at he
    have hp0 := p0_some he; clear he; obtain ⟨he, rfl⟩ := hp0
    exact fine_un M F ho hp he
  · rename_i ho
    split at hc
    case h_2 => cases hc
    rename_i hu
    split at hc
    case h_2 => cases hc
    rename_i hf
    split at hc
    case h_2 => cases hc
    rename_i ek e1
    injection hc with hc; subst hc
    exact fine_fld M F ho hu hf ek e1 he
  · rename_i ho
    split at hc
    case h_2 => cases hc
    rename_i hu
    split at hc
    case h_2 => cases hc
    rename_i hf
    split at hc
    case h_2 => cases hc
    rename_i es e1
    injection hc with hc; subst hc
    exact fine_fa M F ho hu hf es e1 he
  · rename_i ho
    split at hc
    · rename_i hu
      split at hc
      case h_2 => cases hc
      rename_i es e1 e2
      injection hc with hc; subst hc
      exact fine_ia M F ho hu es e1 e2 he
    · rename_i hu
      split at hc
      case h_2 => cases hc
      rename_i es e1 e2
      injection hc with hc; subst hc
      exact fine_iaA M F ho hu es e1 e2 he
    · cases hc
  · rename_i ho
    split at hc
    · rename_i hu
      split at hc
      case h_2 => cases hc
      rename_i e1 e2
      injection hc with hc; subst hc
      exact fine_ixS M F ho hu e1 e2 he
    · rename_i hu
      split at hc
      case h_2 => cases hc
      rename_i ek es e1 e2
      injection hc with hc; subst hc
      exact fine_ixA M F ho hu ek es e1 e2 he
    · cases hc
  · rename_i ho
    split at hc
    case h_2 => cases hc
    rename_i hu
    split at hc
    · rename_i hk hz e1 e2
      injection hc with hc; subst hc
      exact fine_lookup M F ho hu (ks := false) ⟨_, hk⟩ hz e1 e2 he
    · rename_i hk hz e1 e2
      injection hc with hc; subst hc
      exact fine_lookup M F ho hu (ks := true) hk hz e1 e2 he
    · cases hc
  · rename_i ho
    split at hc
    case h_2 => cases hc
    rename_i hu
    split at hc
    · rename_i hk e1 e2 e3
      injection hc with hc; subst hc
      exact fine_mupd M F (.inl ho) hu (ks := false) ⟨_, hk⟩ e1 e2 e3 he
    · rename_i hk e1 e2 e3
      injection hc with hc; subst hc
      exact fine_mupd M F (.inl ho) hu (ks := true) hk e1 e2 e3 he
    · cases hc
  · rename_i ho
    split at hc
    case h_2 => cases hc
    rename_i hu
    split at hc
    · rename_i hk e1 e2 e3
      injection hc with hc; subst hc
      exact fine_mupd M F (.inr ho) hu (ks := false) ⟨_, hk⟩ e1 e2 e3 he
    · rename_i hk e1 e2 e3
      injection hc with hc; subst hc
      exact fine_mupd M F (.inr ho) hu (ks := true) hk e1 e2 e3 he
    · cases hc
  · rename_i ho
    injection hc with hc; subst hc
    injection he with he; injection he with h1 h2; subst h1 h2
    exact fine_mkmap M ho
  · rename_i ho
    split at hc
    · cases hc
    · rename_i hn hu e1
      injection hc with hc; subst hc
      injection he with he; injection he with h1 h2; subst h1 h2
      exact fine_mkif M F ho hu (fun q hq => hn q hq) e1
    · cases hc
  · rename_i ho
    split at hc
    case h_2 => cases hc
    rename_i e1 e2
    injection hc with hc; subst hc
    injection he with he; injection he with h1 h2; subst h1 h2
    exact fine_mkfn M F ho e1 e2
  · rename_i ho
    obtain ⟨p, hp, rfl⟩ := Option.map_eq_some_iff.1 hc
    exact fine_ext M F ho hp he
  · rename_i ho
    split at hc
    · rename_i hu e1 e2 e3
      injection hc with hc; subst hc
      exact fine_slcS M F ho hu e1 e2 e3 he
    · rename_i hu e1 e2 e3
      obtain ⟨sz, hsz, rfl⟩ := Option.map_eq_some_iff.1 hc
      exact fine_slcL M F ho hu hsz e1 e2 e3 he
    · cases hc
  · rename_i ho
    split at hc
    · rename_i hu hu2 e1
      injection hc with hc; subst hc
      exact fine_conv M F ho hu hu2 e1 he
    · rename_i hu hu2 e1
      injection hc with hc; subst hc
      exact fine_nop M F ho hu hu2 e1 he
    · rename_i hu hu2 e1
      split at hc
      case isFalse => cases hc
      rename_i hsz
      injection hc with hc; subst hc
      exact fine_cvp M F ho hu hu2 hsz e1 he
    · cases hc
  · rename_i ho
    split at hc
    · cases hc
    · rename_i hn hu hz e1
      injection hc with hc; subst hc
      exact fine_tas M F ho hu (fun q hq => hn q hq) hz e1 he
    · cases hc
  · rename_i ho
    split at hc
    case h_2 => cases hc
    rename_i hu
    split at hc
    case h_2 => cases hc
    rename_i hi hz e1 e2
    injection hc with hc; subst hc
    exact fine_mksl M F ho hu hi hz e1 e2 he
  · rename_i ho
    split at hc
    · rename_i hu e1
      injection hc with hc; subst hc
      exact fine_rng M F ho hu e1 he
    · cases hc
  · rename_i ho
    obtain ⟨p, hp, rfl⟩ := Option.map_eq_some_iff.1 hc
    exact fine_nxt M F ho hp he
  · rename_i c ho
    split at hc
    · rename_i hcl
      split at hc
      case h_2 => cases hc
      rename_i ht ha
      split at hc
      · rename_i hu e1
        injection hc with hc; subst hc
        exact fine_lenS M F ho hcl ht ha hu e1 he
      · rename_i hu e1
        injection hc with hc; subst hc
        exact fine_lenL M F ho hcl ht ha hu e1 he
      · cases hc
    · rename_i hcl
      split at hc
      case h_2 => cases hc
      rename_i t t' y z ht ha
      split at hc
      case isFalse => cases hc
      rename_i htt
      subst htt
      split at hc
      case h_2 => cases hc
      rename_i hu
      split at hc
      case h_2 => cases hc
      rename_i hi e1 e2
      split at hc
      case isFalse => cases hc
      rename_i hzs
      injection hc with hc; subst hc
      exact fine_append M F ho hcl (Array.toList_inj.1 (by simpa using ht)) (Array.toList_inj.1 (by simpa using ha)) hu hi hzs e1 e2 he
    · rename_i hcl
      split at hc
      case h_2 => cases hc
      rename_i y z ha
      split at hc
      case h_2 => cases hc
      rename_i e1 e2
      injection hc with hc; subst hc
      exact fine_min M F ho hcl (Array.toList_inj.1 (by simpa using ha)) e1 e2 he
    · rename_i hcl
      split at hc
      case h_2 => cases hc
      rename_i y z ha
      split at hc
      case h_2 => cases hc
      rename_i e1 e2
      injection hc with hc; subst hc
      exact fine_max M F ho hcl (Array.toList_inj.1 (by simpa using ha)) e1 e2 he
    · rename_i hcl
      split at hc
      case h_2 => cases hc
      injection hc with hc; subst hc
      cases he
    · rename_i hcl
      split at hc
      case h_2 => cases hc
      injection hc with hc; subst hc
      cases he
    · cases hc
  · cases hc
end
end Go.Eng
