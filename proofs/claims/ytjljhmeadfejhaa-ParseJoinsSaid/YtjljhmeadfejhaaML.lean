/- YtjljhmeadfejhaaML: texts of this claim, merged. -/
import Derived.Test.YtjljhmeadfejhaaMK
/- The law of tokens: those of two texts, a line's end between, are those of both. -/
set_option maxRecDepth 100000
set_option linter.unusedVariables false
set_option linter.unusedSimpArgs false
namespace Go.Proofs.Ytjljhmeadfejhaa
open Go.Eng
/-- A token, its place left out. -/
abbrev TT3 := Int × ByteArray × Int
def Tok.strip (t : Tok) : TT3 := (t.kind, t.text, t.num)
def strip3 (t : Int × List UInt8 × Int) : TT3 := (t.1, bA t.2.1, t.2.2)
theorem strip_tokOf (p : Nat) (t : Int × List UInt8 × Int) : (tokOf p t).strip = strip3 t := rfl
inductive Lx : List UInt8 → List TT3 → Prop
  | nil : Lx [] []
  | cons {r : List UInt8} {ts : List TT3} (hr : r ≠ []) (h0 : (oneR r).1 = 0) (h : Lx (r.drop (oneR r).2.1) ts) : Lx r ((oneR r).2.2.map strip3 ++ ts)
theorem one_adv' {r : List UInt8} (hr : r ≠ []) (h : (oneR r).1 = 0) : 1 ≤ (oneR r).2.1 := by
  cases r with
  | nil => exact absurd rfl hr
  | cons c r => exact one_adv h
theorem lx_of : ∀ (f : Nat) (r : List UInt8) (p : Nat) (t : List Tok), r.length < f → (lexR f r p t).1 = 0 → ∃ ts, Lx r ts ∧ (lexR f r p t).2.2.map Tok.strip = t.map Tok.strip ++ ts
  | 0, r, p, t, hl, h => absurd hl (by omega)
  | f + 1, r, p, t, hl, h => by
    rw [lexR] at h ⊢
    by_cases hr : r = []
    · rw [if_pos hr]
      subst hr
      exact ⟨[], .nil, by simp⟩
    · rw [if_neg hr] at h ⊢
      by_cases h0 : (oneR r).1 = 0
      · rw [if_pos h0] at h ⊢
        have ha := one_adv' hr h0
        obtain ⟨ts, q1, q2⟩ := lx_of f _ _ _ (by rw [List.length_drop]; have : 0 < r.length := List.length_pos_iff.2 hr; omega) h
        refine ⟨_, .cons hr h0 q1, ?_⟩
        rw [q2, List.map_append, List.map_map, List.append_assoc]
        rfl
      · rw [if_neg h0] at h
        exact absurd h h0
theorem of_lx : ∀ (f : Nat) (r : List UInt8) (p : Nat) (t : List Tok) (ts : List TT3), Lx r ts → r.length < f → (lexR f r p t).1 = 0 ∧ (lexR f r p t).2.2.map Tok.strip = t.map Tok.strip ++ ts
  | 0, r, p, t, ts, h, hl => absurd hl (by omega)
  | f + 1, r, p, t, ts, h, hl => by
    rw [lexR]
    cases h with
    | nil => simp
    | cons hr h0 h =>
      rw [if_neg hr, if_pos h0]
      have ha := one_adv' hr h0
      obtain ⟨q1, q2⟩ := of_lx f _ (p + (oneR r).2.1) (t ++ (oneR r).2.2.map (tokOf p)) _ h (by rw [List.length_drop]; have : 0 < r.length := List.length_pos_iff.2 hr; omega)
      refine ⟨q1, ?_⟩
      rw [q2, List.map_append, List.map_map, List.append_assoc]
      rfl
theorem tw_join {f : UInt8 → Bool} (hf : f 10 = false) (q : List UInt8) : ∀ l : List UInt8, (l ++ 10 :: q).takeWhile f = l.takeWhile f
  | [] => by rw [List.nil_append, List.takeWhile_cons_of_neg (by rw [hf]; decide)]; rfl
  | c :: l => by
    rw [List.cons_append]
    cases h : f c with
    | true => rw [List.takeWhile_cons_of_pos h, List.takeWhile_cons_of_pos h, tw_join hf q l]
    | false => rw [List.takeWhile_cons_of_neg (by rw [h]; decide), List.takeWhile_cons_of_neg (by rw [h]; decide)]
theorem note_join (c : UInt8) (r q : List UInt8) : noteP (c :: (r ++ 10 :: q)) = noteP (c :: r) := by
  unfold noteP
  cases r with
  | nil => simp
  | cons d r => rfl
theorem one_join (c : UInt8) (r q : List UInt8) : oneR (c :: (r ++ 10 :: q)) = oneR (c :: r) := by
  rw [oneR_cons, oneR_cons, note_join]
  have e1 := tw_join (f := innerB) (by decide) q (c :: r)
  have e2 := tw_join (f := digitB) (by decide) q (c :: r)
  have e3 := tw_join (f := noteB) (by decide) q (c :: r)
  rw [List.cons_append] at e1 e2 e3
  rw [e1, e2, e3]
theorem lx_join {b : List UInt8} {tb : List TT3} (hb : Lx b tb) {a : List UInt8} {ta : List TT3} (ha : Lx a ta) : Lx (a ++ 10 :: b) (ta ++ tb) := by
  induction ha with
  | nil =>
    have e : oneR (10 :: b) = (0, 1, []) := rfl
    have := Lx.cons (r := 10 :: b) (ts := tb) (by simp) (by rw [e]) (by rw [e]; exact hb)
    rw [e] at this
    exact this
  | cons hr h0 h ih =>
    rename_i r ts
    cases r with
    | nil => exact absurd rfl hr
    | cons c r =>
      have e := one_join c r b
      have hle := one_le (c :: r)
      have := Lx.cons (r := c :: (r ++ 10 :: b)) (ts := ts ++ tb) (by simp) (by rw [e]; exact h0) (by
        rw [e, ← List.cons_append, List.drop_append_of_le_length hle]; exact ih)
      rw [e] at this
      rw [List.append_assoc]
      exact this
theorem one_kind (r : List UInt8) : ∀ t ∈ (oneR r).2.2, ¬ t.1 = 4 := by
  cases r with
  | nil => simp [oneR]
  | cons c r =>
    rw [oneR_cons]
    repeat' split
    all_goals
      intro t ht
      simp only [List.mem_singleton, List.not_mem_nil] at ht
    all_goals
      subst ht
      simp
theorem lx_kind {r : List UInt8} {ts : List TT3} (h : Lx r ts) : ∀ t ∈ ts, ¬ t.1 = 4 := by
  induction h with
  | nil => simp
  | cons hr h0 h ih =>
    intro t ht
    rcases List.mem_append.1 ht with ht | ht
    · obtain ⟨x, hx, rfl⟩ := List.mem_map.1 ht
      exact one_kind _ x hx
    · exact ih t ht
end Go.Proofs.Ytjljhmeadfejhaa

/- The document's Same, of declarations that are the same but for places. -/
set_option maxRecDepth 100000
set_option linter.unusedVariables false
set_option linter.unusedSimpArgs false
namespace Go.Proofs.Ytjljhmeadfejhaa
open Go.Eng
theorem tyLt {t u : Ty} (h : u ∈ t.of) : SizeOf.sizeOf u < SizeOf.sizeOf t := by
  cases t with
  | mk k s l =>
    have := List.sizeOf_lt_of_mem (show u ∈ l from h)
    simp
    omega
theorem w56 : ∀ (n : Nat) (t : Ty), SizeOf.sizeOf t ≤ n → ∀ (h : List AO) (K : ARes → List AO → Prop), t.ok → K (.ok (.bool true)) h → W 56 [.agg [.int .i64 t.kind, .str t.name, .rsl (t.of.map Ty.av)], .agg [.int .i64 t.kind, .str t.name, .rsl (t.of.map Ty.av)]] h K := by
  intro n
  induction n with
  | zero => intro t ht; cases t; simp at ht
  | succ n IH =>
    intro t ht h K hok k
    have IHm : ∀ v ∈ t.of, SizeOf.sizeOf v ≤ n := fun v hv => by have := tyLt hv; omega
    have hlen : t.of.length < most := by cases t; exact hok.2.2.1
    have hoks : ∀ v ∈ t.of, v.ok := by cases t; exact (Ty.okL_iff _).1 hok.2.2.2
    simp only [most] at hlen
    refine W_of mixed c56 (by simp [A56]) ?_
    simp [A56]
    refine lp_ind (ι := Nat) (fun i => i ≤ t.of.length) (fun i => t.of.length - i)
      (fun i => [(2, .ptr h.length 0), (3, .ptr (h.length + 1) 0), (5, .int .i64 (i : Int))])
      (fun i => h ++ [.box [.int .i64 t.kind, .str t.name, .rsl (t.of.map Ty.av)], .box [.int .i64 t.kind, .str t.name, .rsl (t.of.map Ty.av)]]) ?_ 0 (by omega)
    intro i hi ih
    have hw := wrap_succ (i := i) (by omega)
    by_cases hlt : i < t.of.length
    · simp [uf A56_l0.eq_1, hlt, Ty.av, Ty.cells_eq]
      refine ⟨_, _, IH t.of[i] (IHm _ (List.getElem_mem hlt)) _ _ (hoks _ (List.getElem_mem hlt)) ⟨rfl, rfl⟩, ?_⟩
      simp [hw]
      exact ih (i + 1) (by omega) (by omega)
    · have : i = t.of.length := by omega
      subst this
      simp [uf A56_l0.eq_1, uf A56_r0.eq_1]
      exact ret_pureJ (by simp) k
section
variable {h : List AO} {K : ARes → List AO → Prop}
theorem w52 {kd e1 e2 : Int} {nm : ByteArray} {fs : List Fld} {ms : List Mth} (hfl : fs.length < 1000000000) (hml : ms.length < 1000000000) (hok : ∀ f ∈ fs, f.ty.ok) (k : K (.ok (.bool true)) h) : W 52 [Decl.av ⟨kd, nm, fs, ms, e1⟩, Decl.av ⟨kd, nm, fs, ms, e2⟩] h K := by
  refine W_of mixed c52 (by simp [A52]) ?_
  simp [A52, Decl.av]
  refine lp_ind (ι := Nat) (fun i => i ≤ fs.length) (fun i => fs.length - i)
    (fun i => [(2, .ptr h.length 0), (3, .ptr (h.length + 1) 0), (5, .bool true), (6, .int .i64 (i : Int))])
    (fun i => h ++ [.box [.int .i64 kd, .str nm, .rsl (fs.map Fld.av), .rsl (ms.map Mth.av), .int .i64 e1], .box [.int .i64 kd, .str nm, .rsl (fs.map Fld.av), .rsl (ms.map Mth.av), .int .i64 e2]]) ?_ 0 (by omega)
  intro i hi ih
  have hw := wrap_succ (i := i) (by omega)
  by_cases hlt : i < fs.length
  · simp [uf A52_l0.eq_1, hlt, Fld.av]
    refine R_regX ?_
    simp [fillA, setL, hlt, Fld.av]
    refine ⟨?_, ?_⟩
    · intro p hp' o' Fi Fk Fk' a1 a2 a3 a4
      simp at hp'
      rcases hp' with rfl | rfl | rfl | rfl | rfl | rfl | rfl | rfl | rfl | rfl
      all_goals
        simp at a1 a2 a3 a4
        subst a1 a2 a3 a4
        simp [Go.Eng.valOf, hlt, Fld.av]
    · refine w56 _ fs[i].ty (Nat.le_refl _) _ _ (hok _ (List.getElem_mem hlt)) ?_
      simp [hw]
      refine lp_cut 2 ?_ (by simp; rfl) ?_
      · simp [AO.bel, belL, AV.bel]
      · exact ih (i + 1) (by omega) (by omega)
  · have : i = fs.length := by omega
    subst this
    simp [uf A52_l0.eq_1, uf A52_r1.eq_1]
    refine lp_ind (ι := Nat) (fun i => i ≤ ms.length) (fun i => ms.length - i)
      (fun i => [(2, .ptr h.length 0), (3, .ptr (h.length + 1) 0), (5, .bool true), (9, .int .i64 (i : Int))])
      (fun i => h ++ [.box [.int .i64 kd, .str nm, .rsl (fs.map Fld.av), .rsl (ms.map Mth.av), .int .i64 e1], .box [.int .i64 kd, .str nm, .rsl (fs.map Fld.av), .rsl (ms.map Mth.av), .int .i64 e2]]) ?_ 0 (by omega)
    intro i hi ih
    have hw := wrap_succ (i := i) (by omega)
    by_cases hlt : i < ms.length
    · simp [uf A52_l1.eq_1, hlt, Mth.av, hw]
      exact ih (i + 1) (by omega) (by omega)
    · have : i = ms.length := by omega
      subst this
      simp [uf A52_l1.eq_1, uf A52_r0.eq_1]
      exact ret_pureJ (by simp) k
def Decl.noE (d : Decl) : Decl := ⟨d.kind, d.name, d.fields, d.methods, 0⟩
def Decl.fitS (d : Decl) : Prop := d.fields.length < 1000000000 ∧ d.methods.length < 1000000000 ∧ ∀ f ∈ d.fields, f.ty.ok
theorem w32 {zs ws : List Decl} (he : zs.map Decl.noE = ws.map Decl.noE) (hl : zs.length < 1000000000) (hz : ∀ d ∈ zs, d.fitS) (k : K (.ok (.bool true)) h) : W 32 [.rsl (zs.map Decl.av), .rsl (ws.map Decl.av), .bool false] h K := by
  have hlen : zs.length = ws.length := by have := congrArg List.length he; simpa using this
  refine W_of mixed c32 (by simp [A32]) ?_
  simp [A32, hlen]
  refine lp_ind (ι := Nat) (fun i => i ≤ zs.length) (fun i => zs.length - i)
    (fun i => [(0, .rsl (zs.map Decl.av)), (1, .rsl (ws.map Decl.av)), (2, .bool false), (7, .int .i64 (i : Int))])
    (fun i => h) ?_ 0 (by omega)
  intro i hi ih
  have hw := wrap_succ (i := i) (by omega)
  by_cases hlt : i < zs.length
  · have hlt' : i < ws.length := by omega
    have e1 : zs[i].noE = ws[i].noE := by
      have := congrArg (fun l => l[i]?) he
      simp [hlt, hlt'] at this
      exact this
    simp [Decl.noE] at e1
    obtain ⟨a1, a2, a3, a4⟩ := e1
    obtain ⟨f1, f2, f3⟩ := hz _ (List.getElem_mem hlt)
    simp [uf A32_l0.eq_1, hlt, hlt', Decl.av]
    rw [a1, a2, a3, a4] 
    refine ⟨_, _, w52 (kd := ws[i].kind) (nm := ws[i].name) (fs := ws[i].fields) (ms := ws[i].methods) (e1 := zs[i].e) (e2 := ws[i].e) (by rw [← a3]; exact f1) (by rw [← a4]; exact f2) (by rw [← a3]; exact f3) ⟨rfl, rfl⟩, ?_⟩
    simp [hw]
    exact ih (i + 1) (by omega) (by omega)
  · have : i = zs.length := by omega
    subst this
    simp [uf A32_l0.eq_1, uf A32_r0.eq_1]
    first | exact .inl k | exact ret_pureJ (by simp) k
end
end Go.Proofs.Ytjljhmeadfejhaa

/- The law of the parser: what it does depends on the tokens that it looks at, and on nothing else. -/
set_option maxRecDepth 100000
set_option linter.unusedVariables false
set_option linter.unusedSimpArgs false
namespace Go.Proofs.Ytjljhmeadfejhaa
open Go.Eng
def Ag (l l' : List Tok) (k M : Nat) : Prop := ∀ i, i ≤ M → (l[i]?.getD default).strip = (l'[i + k]?.getD default).strip
structure Rl (k : Nat) (s s' : PS) : Prop where
  pos : s'.pos = s.pos + k
  err : s'.err = s.err
section
variable {l l' : List Tok} {k M : Nat} {s s' : PS}
theorem now_sim (A : Ag l l' k M) (R : Rl k s s') (h : s.pos ≤ M) : (nowP l' s').strip = (nowP l s).strip := by
  unfold nowP
  rw [R.pos]
  exact (A _ h).symm
theorem kind_sim (A : Ag l l' k M) (R : Rl k s s') (h : s.pos ≤ M) : (nowP l' s').kind = (nowP l s).kind := congrArg (fun x : TT3 => x.1) (now_sim A R h)
theorem text_sim (A : Ag l l' k M) (R : Rl k s s') (h : s.pos ≤ M) : (nowP l' s').text = (nowP l s).text := congrArg (fun x : TT3 => x.2.1) (now_sim A R h)
theorem num_sim (A : Ag l l' k M) (R : Rl k s s') (h : s.pos ≤ M) : (nowP l' s').num = (nowP l s).num := congrArg (fun x : TT3 => x.2.2) (now_sim A R h)
theorem Rl.step (R : Rl k s s') : Rl k ⟨s.pos + 1, s.err, s.eat⟩ ⟨s'.pos + 1, s'.err, s'.eat⟩ := ⟨by show s'.pos + 1 = s.pos + 1 + k; rw [R.pos]; omega, R.err⟩
theorem fail_sim (e : Int) (R : Rl k s s') : Rl k (failP l e s) (failP l' e s') := by
  unfold failP
  by_cases h : s.err = 0
  · rw [if_pos h, if_pos (R.err.trans h)]; exact ⟨R.pos, rfl⟩
  · rw [if_neg h, if_neg (by rw [R.err]; exact h)]; exact R
theorem may_sim (A : Ag l l' k M) (w : ByteArray) (R : Rl k s s') (h : s.pos ≤ M) : (mayP l' w s').1 = (mayP l w s).1 ∧ Rl k (mayP l w s).2 (mayP l' w s').2 := by
  unfold mayP
  rw [R.err, text_sim A R h]
  by_cases c : s.err = 0 ∧ (nowP l s).text = w ∧ ¬ w = ⟨#[]⟩
  · rw [if_pos c, if_pos c]
    have := R.step
    rw [R.err] at this
    exact ⟨rfl, this⟩
  · rw [if_neg c, if_neg c]; exact ⟨rfl, R⟩
theorem need_sim (A : Ag l l' k M) (w : ByteArray) (R : Rl k s s') (h : s.pos ≤ M) : Rl k (needP l w s) (needP l' w s') := by
  obtain ⟨e, R2⟩ := may_sim A w R h
  unfold needP
  rw [e]
  by_cases c : (mayP l w s).1 = true
  · rw [if_pos c, if_pos c]; exact R2
  · rw [if_neg c, if_neg c]; exact fail_sim 5 R2
theorem numP_sim (A : Ag l l' k M) (R : Rl k s s') (h : s.pos ≤ M) : (numP l' s').1 = (numP l s).1 ∧ Rl k (numP l s).2 (numP l' s').2 := by
  unfold numP
  rw [R.err, kind_sim A R h, num_sim A R h]
  by_cases c : (nowP l s).kind = 2
  · rw [if_pos c, if_pos c]
    by_cases e : s.err = 0
    · rw [if_pos e, if_pos e]
      have := R.step
      rw [R.err] at this
      exact ⟨rfl, this⟩
    · rw [if_neg e, if_neg e]; exact ⟨rfl, R⟩
  · rw [if_neg c, if_neg c]; exact ⟨rfl, fail_sim 5 R⟩
theorem nameP_sim (A : Ag l l' k M) (R : Rl k s s') (h : s.pos ≤ M) : (nameP l' s').1 = (nameP l s).1 ∧ Rl k (nameP l s).2 (nameP l' s').2 := by
  unfold nameP
  rw [R.err, kind_sim A R h, text_sim A R h]
  by_cases c : (nowP l s).kind = 1 ∧ wordM (nowP l s).text = false
  · rw [if_pos c, if_pos c]
    by_cases e : s.err = 0
    · rw [if_pos e, if_pos e]
      have := R.step
      rw [R.err] at this
      exact ⟨rfl, this⟩
    · rw [if_neg e, if_neg e]; exact ⟨rfl, R⟩
  · rw [if_neg c, if_neg c]; exact ⟨rfl, fail_sim 5 R⟩
theorem base_sim (A : Ag l l' k M) {rec rec' : PS → Ty × PS} (hm : ∀ s, s.pos ≤ (rec s).2.pos) (hr : ∀ s s', Rl k s s' → (rec s).2.pos ≤ M → (rec' s').1 = (rec s).1 ∧ Rl k (rec s).2 (rec' s').2)
    (R : Rl k s s') (h : (baseP l rec s).2.pos ≤ M) : (baseP l' rec' s').1 = (baseP l rec s).1 ∧ Rl k (baseP l rec s).2 (baseP l' rec' s').2 := by
  have hs : s.pos ≤ M := Nat.le_trans (base_mono hm s) h
  unfold baseP at h ⊢
  rw [text_sim A R hs]
  obtain ⟨e1, R1⟩ := may_sim A wList R hs
  obtain ⟨e2, R2⟩ := may_sim A wMap R hs
  rw [e1, e2]
  by_cases c : 0 < plainM (nowP l s).text
  · rw [if_pos c, if_pos c]; exact ⟨rfl, R.step⟩
  · rw [if_neg c] at h; rw [if_neg c, if_neg c]
    by_cases c1 : (mayP l wList s).1 = true
    · rw [if_pos c1] at h; rw [if_pos c1, if_pos c1]
      have b1 : (rec (needP l ⟨#[60]⟩ (mayP l wList s).2)).2.pos ≤ M := Nat.le_trans (need_mono l _ _) h
      have b2 := Nat.le_trans (hm _) b1
      have b3 := Nat.le_trans (need_mono l _ _) b2
      obtain ⟨x1, x2⟩ := hr _ _ (need_sim A ⟨#[60]⟩ R1 b3) b1
      rw [x1]
      exact ⟨rfl, need_sim A _ x2 b1⟩
    · rw [if_neg c1] at h; rw [if_neg c1, if_neg c1]
      by_cases c2 : (mayP l wMap s).1 = true
      · rw [if_pos c2] at h; rw [if_pos c2, if_pos c2]
        have b1 : (rec (needP l ⟨#[44]⟩ (rec (needP l ⟨#[60]⟩ (mayP l wMap s).2)).2)).2.pos ≤ M := Nat.le_trans (need_mono l _ _) h
        have b2 := Nat.le_trans (hm _) b1
        have b3 := Nat.le_trans (need_mono l _ _) b2
        have b4 := Nat.le_trans (hm _) b3
        have b5 := Nat.le_trans (need_mono l _ _) b4
        obtain ⟨x1, x2⟩ := hr _ _ (need_sim A ⟨#[60]⟩ R2 b5) b3
        obtain ⟨y1, y2⟩ := hr _ _ (need_sim A ⟨#[44]⟩ x2 b3) b1
        rw [x1, y1]
        exact ⟨rfl, need_sim A _ y2 b1⟩
      · rw [if_neg c2] at h; rw [if_neg c2, if_neg c2]
        obtain ⟨x1, x2⟩ := nameP_sim A R hs
        rw [x1]
        exact ⟨rfl, x2⟩
theorem typ_sim (A : Ag l l' k M) : ∀ (f : Nat) (s s' : PS), Rl k s s' → (typP l f s).2.pos ≤ M → (typP l' f s').1 = (typP l f s).1 ∧ Rl k (typP l f s).2 (typP l' f s').2
  | 0, s, s', R, h => by rw [typP, typP]; exact ⟨rfl, fail_sim 10 R⟩
  | f + 1, s, s', R, h => by
    rw [typP] at h
    rw [typP, typP, R.err]
    by_cases e : s.err = 0
    · rw [if_pos e] at h; rw [if_pos e, if_pos e]
      have b : (baseP l (typP l f) s).2.pos ≤ M := by
        split at h
        · exact Nat.le_trans (may_mono l _ _) h
        · exact h
      obtain ⟨x1, x2⟩ := base_sim A (typ_mono l f) (typ_sim A f) R b
      obtain ⟨y1, y2⟩ := may_sim A ⟨#[63]⟩ x2 b
      rw [y1, x1]
      by_cases c : (mayP l ⟨#[63]⟩ (baseP l (typP l f) s).2).1 = true
      · rw [if_pos c, if_pos c]; exact ⟨rfl, y2⟩
      · rw [if_neg c, if_neg c]; exact ⟨x1, x2⟩
    · rw [if_neg e, if_neg e]; exact ⟨rfl, R⟩
theorem field_sim (A : Ag l l' k M) (R : Rl k s s') (h : (fieldP l s).2.pos ≤ M) : (fieldP l' s').1 = (fieldP l s).1 ∧ Rl k (fieldP l s).2 (fieldP l' s').2 := by
  have b1 : (typP l 9 (needP l ⟨#[58]⟩ (nameP l (numP l s).2).2)).2.pos ≤ M := h
  have b2 := Nat.le_trans (typ_mono l _ _) b1
  have b3 := Nat.le_trans (need_mono l _ _) b2
  have b4 := Nat.le_trans (name_mono l _) b3
  have b5 := Nat.le_trans (num_mono l _) b4
  obtain ⟨x1, x2⟩ := numP_sim A R b5
  obtain ⟨y1, y2⟩ := nameP_sim A x2 b4
  obtain ⟨z1, z2⟩ := typ_sim A 9 _ _ (need_sim A ⟨#[58]⟩ y2 b3) b1
  refine ⟨?_, z2⟩
  show Fld.mk _ _ _ = Fld.mk _ _ _
  rw [x1, y1, z1]
theorem enum_sim (A : Ag l l' k M) (R : Rl k s s') (h : (enumP l s).2.pos ≤ M) : (enumP l' s').1 = (enumP l s).1 ∧ Rl k (enumP l s).2 (enumP l' s').2 := by
  have b4 := Nat.le_trans (name_mono l _) h
  have b5 := Nat.le_trans (num_mono l _) b4
  obtain ⟨x1, x2⟩ := numP_sim A R b5
  obtain ⟨y1, y2⟩ := nameP_sim A x2 b4
  refine ⟨?_, y2⟩
  show Fld.mk _ _ _ = Fld.mk _ _ _
  rw [x1, y1]
theorem meth_sim (A : Ag l l' k M) (R : Rl k s s') (h : (methP l s).2.pos ≤ M) : (methP l' s').1 = (methP l s).1 ∧ Rl k (methP l s).2 (methP l' s').2 := by
  have b1 := Nat.le_trans (name_mono l _) h
  have b2 := Nat.le_trans (need_mono l _ _) b1
  have b3 := Nat.le_trans (need_mono l _ _) b2
  have b4 := Nat.le_trans (name_mono l _) b3
  have b5 := Nat.le_trans (need_mono l _ _) b4
  have b6 := Nat.le_trans (name_mono l _) b5
  have b7 := Nat.le_trans (num_mono l _) b6
  have b8 := Nat.le_trans (may_mono l _ _) b7
  obtain ⟨x1, x2⟩ := may_sim A wOneway R b8
  obtain ⟨y1, y2⟩ := numP_sim A x2 b7
  obtain ⟨z1, z2⟩ := nameP_sim A y2 b6
  obtain ⟨u1, u2⟩ := nameP_sim A (need_sim A ⟨#[40]⟩ z2 b5) b4
  obtain ⟨v1, v2⟩ := nameP_sim A (need_sim A ⟨#[58]⟩ (need_sim A ⟨#[41]⟩ u2 b3) b2) b1
  refine ⟨?_, v2⟩
  show Mth.mk _ _ _ _ _ = Mth.mk _ _ _ _ _
  rw [x1, y1, z1, u1, v1]
end
end Go.Proofs.Ytjljhmeadfejhaa

/- The law of the parser: declarations. -/
set_option maxRecDepth 100000
set_option linter.unusedVariables false
set_option linter.unusedSimpArgs false
namespace Go.Proofs.Ytjljhmeadfejhaa
open Go.Eng
theorem rows_stop {l : List Tok} {σ : Type} {step : PS → σ → PS × σ} {s : PS} (h : ¬ s.err = 0) (f n : Nat) (x : σ) : rowsP l step f n s x = (s, x) := by
  cases f with
  | zero => rfl
  | succ f => rw [rowsP, if_neg h]
section
variable {l l' : List Tok} {k M : Nat} {s s' : PS}
theorem rows_adv (T : TL l) {σ : Type} {step : PS → σ → PS × σ} (hpos : ∀ s x, s.pos < l.length → (step s x).1.pos < l.length ∧ s.pos ≤ (step s x).1.pos) :
    ∀ (f n : Nat) (s : PS) (x : σ), s.pos < l.length → l.length + 1 ≤ s.pos + f → (rowsP l step f n s x).1.err = 0 → s.pos + 1 ≤ (rowsP l step f n s x).1.pos
  | 0, n, s, x, hs, hf, h => by omega
  | f + 1, n, s, x, hs, hf, h => by
    by_cases e : s.err = 0
    · rw [rowsP, if_pos e] at h ⊢
      by_cases c : (mayP l ⟨#[125]⟩ s).1 = true
      · rw [if_pos c]
        unfold mayP at c ⊢
        split
        · simp
        · rename_i q; rw [if_neg q] at c; cases c
      · rw [if_neg c] at h ⊢
        by_cases d : n = 16 ∧ ¬ (nowP l s).kind = 4
        · rw [if_pos d] at h
          rw [rows_stop (fail_err (by decide) _)] at h
          exact absurd h (fail_err (by decide) _)
        · rw [if_neg d] at h ⊢
          obtain ⟨q1, q2⟩ := hpos s x hs
          by_cases e2 : (needP l ⟨#[59]⟩ (step s x).1).err = 0
          · have a := need_err e2
            have := rows_adv T hpos f (n + 1) (needP l ⟨#[59]⟩ (step s x).1) (step s x).2 (need_pos T q1) (by omega) h
            omega
          · rw [rows_stop e2] at h
            exact absurd h e2
    · rw [rows_stop e] at h
      exact absurd h e
theorem rows_sim (T : TL l) (T' : TL l') (A : Ag l l' k M) {σ : Type} {step step' : PS → σ → PS × σ} (hpos : ∀ s x, s.pos < l.length → (step s x).1.pos < l.length ∧ s.pos ≤ (step s x).1.pos)
    (hpos' : ∀ s x, s.pos < l'.length → (step' s x).1.pos < l'.length ∧ s.pos ≤ (step' s x).1.pos)
    (hsim : ∀ s s' x, Rl k s s' → (step s x).1.pos ≤ M → (step' s' x).2 = (step s x).2 ∧ Rl k (step s x).1 (step' s' x).1) :
    ∀ (f f' n : Nat) (s s' : PS) (x : σ), Rl k s s' → s.pos < l.length → l.length + 1 ≤ s.pos + f → s'.pos < l'.length → l'.length + 1 ≤ s'.pos + f' → (rowsP l step f n s x).1.err = 0 → (rowsP l step f n s x).1.pos ≤ M + 1 →
      (rowsP l' step' f' n s' x).2 = (rowsP l step f n s x).2 ∧ Rl k (rowsP l step f n s x).1 (rowsP l' step' f' n s' x).1
  | 0, f', n, s, s', x, R, hs, hf, hs', hf', h, hM => by omega
  | f + 1, 0, n, s, s', x, R, hs, hf, hs', hf', h, hM => by omega
  | f + 1, f' + 1, n, s, s', x, R, hs, hf, hs', hf', h, hM => by
    by_cases e : s.err = 0
    · have adv := rows_adv T hpos (f + 1) n s x hs hf h
      have hsM : s.pos ≤ M := by omega
      obtain ⟨m1, m2⟩ := may_sim A ⟨#[125]⟩ R hsM
      rw [rowsP, if_pos e] at h hM
      rw [rowsP, rowsP, if_pos e, if_pos (R.err.trans e), m1]
      by_cases c : (mayP l ⟨#[125]⟩ s).1 = true
      · rw [if_pos c, if_pos c]; exact ⟨rfl, m2⟩
      · rw [if_neg c] at h hM; rw [if_neg c, if_neg c, kind_sim A R hsM]
        by_cases d : n = 16 ∧ ¬ (nowP l s).kind = 4
        · rw [if_pos d] at h
          rw [rows_stop (fail_err (by decide) _)] at h
          exact absurd h (fail_err (by decide) _)
        · rw [if_neg d] at h hM; rw [if_neg d, if_neg d]
          obtain ⟨q1, q2⟩ := hpos s x hs
          obtain ⟨q1', q2'⟩ := hpos' s' x hs'
          by_cases e2 : (needP l ⟨#[59]⟩ (step s x).1).err = 0
          · have a := need_err e2
            have adv2 := rows_adv T hpos f (n + 1) (needP l ⟨#[59]⟩ (step s x).1) (step s x).2 (need_pos T q1) (by omega) h
            have hb : (step s x).1.pos ≤ M := by omega
            obtain ⟨x1, x2⟩ := hsim s s' x R hb
            have R2 := need_sim A ⟨#[59]⟩ x2 hb
            have e2' : (needP l' ⟨#[59]⟩ (step' s' x).1).err = 0 := R2.err.trans e2
            have a' := need_err e2'
            rw [x1]
            exact rows_sim T T' A hpos hpos' hsim f f' (n + 1) _ _ _ R2 (need_pos T q1) (by omega) (need_pos T' q1') (by omega) h hM
          · rw [rows_stop e2] at h
            exact absurd h e2
    · rw [rows_stop e] at h
      exact absurd h e
/-! ### what is wrong stays wrong -/
theorem fail_sticky {e : Int} (h : ¬ s.err = 0) : failP l e s = s := by unfold failP; rw [if_neg h]
theorem may_sticky {w : ByteArray} (h : ¬ s.err = 0) : mayP l w s = (false, s) := by unfold mayP; rw [if_neg (fun e => h e.1)]
theorem need_sticky {w : ByteArray} (h : ¬ s.err = 0) : needP l w s = s := by
  unfold needP
  rw [may_sticky h, if_neg (by simp), fail_sticky h]
theorem name_sticky (h : ¬ s.err = 0) : (nameP l s).2 = s := by
  unfold nameP
  split <;> simp [h, fail_sticky h]
theorem start_err {f : Nat} {σ : Type} {step : PS → σ → PS × σ} {n : Nat} {x : σ} (h : (rowsP l step f n (needP l ⟨#[123]⟩ (nameP l s).2) x).1.err = 0) : s.err = 0 := by
  by_cases e : s.err = 0
  · exact e
  · rw [name_sticky e, need_sticky e, rows_stop e] at h
    exact absurd h e
theorem whole_sim (T : TL l) (T' : TL l') (A : Ag l l' k M) {σ : Type} {step step' : PS → σ → PS × σ} (hpos : ∀ s x, s.pos < l.length → (step s x).1.pos < l.length ∧ s.pos ≤ (step s x).1.pos)
    (hpos' : ∀ s x, s.pos < l'.length → (step' s x).1.pos < l'.length ∧ s.pos ≤ (step' s x).1.pos)
    (hsim : ∀ s s' x, Rl k s s' → (step s x).1.pos ≤ M → (step' s' x).2 = (step s x).2 ∧ Rl k (step s x).1 (step' s' x).1) {x : σ}
    (R : Rl k s s') (hs : s.pos < l.length) (hs' : s'.pos < l'.length)
    (h : (rowsP l step (l.length + 2) 0 (needP l ⟨#[123]⟩ (nameP l s).2) x).1.err = 0) (hM : (rowsP l step (l.length + 2) 0 (needP l ⟨#[123]⟩ (nameP l s).2) x).1.pos ≤ M + 1) :
    (nameP l' s').1 = (nameP l s).1 ∧ (rowsP l' step' (l'.length + 2) 0 (needP l' ⟨#[123]⟩ (nameP l' s').2) x).2 = (rowsP l step (l.length + 2) 0 (needP l ⟨#[123]⟩ (nameP l s).2) x).2 ∧
      Rl k (rowsP l step (l.length + 2) 0 (needP l ⟨#[123]⟩ (nameP l s).2) x).1 (rowsP l' step' (l'.length + 2) 0 (needP l' ⟨#[123]⟩ (nameP l' s').2) x).1 := by
  have p1 := need_pos T (w := ⟨#[123]⟩) (name_pos T hs)
  have p1' := need_pos T' (w := ⟨#[123]⟩) (name_pos T' hs')
  have adv := rows_adv T hpos (l.length + 2) 0 _ x p1 (by omega) h
  have b1 : (needP l ⟨#[123]⟩ (nameP l s).2).pos ≤ M := by omega
  have b2 := Nat.le_trans (need_mono l _ _) b1
  have b3 := Nat.le_trans (name_mono l _) b2
  obtain ⟨x1, x2⟩ := nameP_sim A R b3
  exact ⟨x1, rows_sim T T' A hpos hpos' hsim _ _ 0 _ _ x (need_sim A ⟨#[123]⟩ x2 b2) p1 (by omega) p1' (by omega) h hM⟩
theorem whole_adv (T : TL l) {σ : Type} {step : PS → σ → PS × σ} (hpos : ∀ s x, s.pos < l.length → (step s x).1.pos < l.length ∧ s.pos ≤ (step s x).1.pos) {x : σ} (hs : s.pos < l.length)
    (h : (rowsP l step (l.length + 2) 0 (needP l ⟨#[123]⟩ (nameP l s).2) x).1.err = 0) : s.pos + 1 ≤ (rowsP l step (l.length + 2) 0 (needP l ⟨#[123]⟩ (nameP l s).2) x).1.pos := by
  have p1 := need_pos T (w := ⟨#[123]⟩) (name_pos T hs)
  have adv := rows_adv T hpos (l.length + 2) 0 _ x p1 (by omega) h
  have := need_mono l ⟨#[123]⟩ (nameP l s).2
  have := name_mono l s
  omega
theorem fStep_pos (T : TL l) : ∀ s x, s.pos < l.length → (fStep l s x).1.pos < l.length ∧ s.pos ≤ (fStep l s x).1.pos := fun s x h => field_pos T h
theorem eStep_pos (T : TL l) : ∀ s x, s.pos < l.length → (eStep l s x).1.pos < l.length ∧ s.pos ≤ (eStep l s x).1.pos := fun s x h => enum_pos T h
theorem mStep_pos (T : TL l) : ∀ s x, s.pos < l.length → (mStep l s x).1.pos < l.length ∧ s.pos ≤ (mStep l s x).1.pos := fun s x h => ⟨meth_pos T h, meth_mono l s⟩
theorem fStep_sim (A : Ag l l' k M) : ∀ s s' x, Rl k s s' → (fStep l s x).1.pos ≤ M → (fStep l' s' x).2 = (fStep l s x).2 ∧ Rl k (fStep l s x).1 (fStep l' s' x).1 := fun s s' x R h => by
  obtain ⟨a, b⟩ := field_sim A R h
  exact ⟨by simp [fStep, a], b⟩
theorem eStep_sim (A : Ag l l' k M) : ∀ s s' x, Rl k s s' → (eStep l s x).1.pos ≤ M → (eStep l' s' x).2 = (eStep l s x).2 ∧ Rl k (eStep l s x).1 (eStep l' s' x).1 := fun s s' x R h => by
  obtain ⟨a, b⟩ := enum_sim A R h
  exact ⟨by simp [eStep, a], b⟩
theorem mStep_sim (A : Ag l l' k M) : ∀ s s' x, Rl k s s' → (mStep l s x).1.pos ≤ M → (mStep l' s' x).2 = (mStep l s x).2 ∧ Rl k (mStep l s x).1 (mStep l' s' x).1 := fun s s' x R h => by
  obtain ⟨a, b⟩ := meth_sim A R h
  exact ⟨by simp [mStep, a], b⟩
theorem withF_sim (T : TL l) (T' : TL l') (A : Ag l l' k M) {e e' kd : Int} (R : Rl k s s') (hs : s.pos < l.length) (hs' : s'.pos < l'.length) (h : (withF l e kd s).2.err = 0) (hM : (withF l e kd s).2.pos ≤ M + 1) :
    (withF l' e' kd s').1.noE = (withF l e kd s).1.noE ∧ Rl k (withF l e kd s).2 (withF l' e' kd s').2 := by
  obtain ⟨a, b, c⟩ := whole_sim T T' A (fStep_pos T) (fStep_pos T') (fStep_sim A) (x := []) R hs hs' h hM
  refine ⟨?_, c⟩
  show Decl.mk _ _ _ _ _ = Decl.mk _ _ _ _ _
  simp only [fieldsP, a, b, withF]
theorem withE_sim (T : TL l) (T' : TL l') (A : Ag l l' k M) {e e' kd : Int} (R : Rl k s s') (hs : s.pos < l.length) (hs' : s'.pos < l'.length) (h : (withE l e kd s).2.err = 0) (hM : (withE l e kd s).2.pos ≤ M + 1) :
    (withE l' e' kd s').1.noE = (withE l e kd s).1.noE ∧ Rl k (withE l e kd s).2 (withE l' e' kd s').2 := by
  obtain ⟨a, b, c⟩ := whole_sim T T' A (eStep_pos T) (eStep_pos T') (eStep_sim A) (x := []) R hs hs' h hM
  refine ⟨?_, c⟩
  show Decl.mk _ _ _ _ _ = Decl.mk _ _ _ _ _
  simp only [valuesP, a, b, withE]
theorem withM_sim (T : TL l) (T' : TL l') (A : Ag l l' k M) {e e' kd : Int} (R : Rl k s s') (hs : s.pos < l.length) (hs' : s'.pos < l'.length) (h : (withM l e kd s).2.err = 0) (hM : (withM l e kd s).2.pos ≤ M + 1) :
    (withM l' e' kd s').1.noE = (withM l e kd s).1.noE ∧ Rl k (withM l e kd s).2 (withM l' e' kd s').2 := by
  obtain ⟨a, b, c⟩ := whole_sim T T' A (mStep_pos T) (mStep_pos T') (mStep_sim A) (x := []) R hs hs' h hM
  refine ⟨?_, c⟩
  show Decl.mk _ _ _ _ _ = Decl.mk _ _ _ _ _
  simp only [methsP, a, b, withM]
theorem may_one {w : ByteArray} (h : (mayP l w s).1 = true) : (mayP l w s).2.pos = s.pos + 1 := by
  unfold mayP at h ⊢
  split
  · rfl
  · rename_i q; rw [if_neg q] at h; cases h
theorem declP_adv (T : TL l) (hs : s.pos < l.length) (h : (declP l s).2.err = 0) : s.pos + 1 ≤ (declP l s).2.pos := by
  unfold declP at h ⊢
  by_cases c1 : (mayP l kwStruct s).1 = true
  · rw [if_pos c1] at h ⊢
    have a : _ + 1 ≤ (withF l (nowP l s).at_ 1 (mayP l kwStruct s).2).2.pos := whole_adv T (fStep_pos T) (may_pos T hs) h
    have := may_mono l kwStruct s; omega
  rw [if_neg c1] at h ⊢
  by_cases c2 : (mayP l kwUnion s).1 = true
  · rw [if_pos c2] at h ⊢
    have a : _ + 1 ≤ (withF l (nowP l s).at_ 2 (mayP l kwUnion s).2).2.pos := whole_adv T (fStep_pos T) (may_pos T hs) h
    have := may_mono l kwUnion s; omega
  rw [if_neg c2] at h ⊢
  by_cases c3 : (mayP l kwEnum s).1 = true
  · rw [if_pos c3] at h ⊢
    have a : _ + 1 ≤ (withE l (nowP l s).at_ 3 (mayP l kwEnum s).2).2.pos := whole_adv T (eStep_pos T) (may_pos T hs) h
    have := may_mono l kwEnum s; omega
  rw [if_neg c3] at h ⊢
  by_cases c4 : (mayP l kwService s).1 = true
  · rw [if_pos c4] at h ⊢
    have a : _ + 1 ≤ (withM l (nowP l s).at_ 4 (mayP l kwService s).2).2.pos := whole_adv T (mStep_pos T) (may_pos T hs) h
    have := may_mono l kwService s; omega
  rw [if_neg c4] at h ⊢
  exact absurd (start_err h) (fail_err (by decide) _)
theorem decl_sim (T : TL l) (T' : TL l') (A : Ag l l' k M) (R : Rl k s s') (hs : s.pos < l.length) (hs' : s'.pos < l'.length) (h : (declP l s).2.err = 0) (hM : (declP l s).2.pos ≤ M + 1) :
    (declP l' s').1.noE = (declP l s).1.noE ∧ Rl k (declP l s).2 (declP l' s').2 := by
  have adv := declP_adv T hs h
  have hsM : s.pos ≤ M := by omega
  obtain ⟨a1, r1⟩ := may_sim A kwStruct R hsM
  obtain ⟨a2, r2⟩ := may_sim A kwUnion R hsM
  obtain ⟨a3, r3⟩ := may_sim A kwEnum R hsM
  obtain ⟨a4, r4⟩ := may_sim A kwService R hsM
  unfold declP at h hM ⊢
  rw [a1, a2, a3, a4]
  by_cases c1 : (mayP l kwStruct s).1 = true
  · rw [if_pos c1] at h hM; rw [if_pos c1, if_pos c1]
    exact withF_sim T T' A r1 (may_pos T hs) (may_pos T' hs') h hM
  rw [if_neg c1] at h hM; rw [if_neg c1, if_neg c1]
  by_cases c2 : (mayP l kwUnion s).1 = true
  · rw [if_pos c2] at h hM; rw [if_pos c2, if_pos c2]
    exact withF_sim T T' A r2 (may_pos T hs) (may_pos T' hs') h hM
  rw [if_neg c2] at h hM; rw [if_neg c2, if_neg c2]
  by_cases c3 : (mayP l kwEnum s).1 = true
  · rw [if_pos c3] at h hM; rw [if_pos c3, if_pos c3]
    exact withE_sim T T' A r3 (may_pos T hs) (may_pos T' hs') h hM
  rw [if_neg c3] at h hM; rw [if_neg c3, if_neg c3]
  by_cases c4 : (mayP l kwService s).1 = true
  · rw [if_pos c4] at h hM; rw [if_pos c4, if_pos c4]
    exact withM_sim T T' A r4 (may_pos T hs) (may_pos T' hs') h hM
  rw [if_neg c4] at h
  exact absurd (start_err h) (fail_err (by decide) _)
end
end Go.Proofs.Ytjljhmeadfejhaa

/- The law of ParseJoins. -/
set_option maxRecDepth 100000
set_option linter.unusedVariables false
set_option linter.unusedSimpArgs false
namespace Go.Proofs.Ytjljhmeadfejhaa
open Go.Eng
theorem parse_stop {l : List Tok} {s : PS} (h : ¬ s.err = 0) (f : Nat) (ds : List Decl) : parseP l f s ds = (s, ds) := by
  cases f with
  | zero => rfl
  | succ f => rw [parseP, if_neg (fun e => h e.1)]
theorem parse_len (l : List Tok) : ∀ (f : Nat) (s : PS) (ds : List Decl), ds.length ≤ (parseP l f s ds).2.length
  | 0, s, ds => by simp [parseP]
  | f + 1, s, ds => by
    rw [parseP]
    split
    · split
      · simp
      · have := parse_len l f (declP l s).2 (ds ++ [(declP l s).1])
        rw [List.length_append] at this
        simp at this
        omega
    · simp
section
variable {l l' : List Tok}
/-- The first text's declarations. -/
theorem parse_a (T : TL l) (T' : TL l') (A : 2 ≤ l.length → Ag l l' 0 (l.length - 2)) (hk : ∀ i t, l[i]? = some t → t.kind = 4 → i + 1 = l.length) (hl : l.length ≤ l'.length) :
    ∀ (f : Nat) (s s' : PS) (ds ds' : List Decl), Rl 0 s s' → s.pos < l.length → ds'.map Decl.noE = ds.map Decl.noE → f + ds.length = 17 → ds.length ≤ 16 → (parseP l f s ds).1.err = 0 →
      ∃ g s1 d1, parseP l' f s' ds' = parseP l' g s1 d1 ∧ g + d1.length = 17 ∧ d1.length ≤ 16 ∧ s1.pos + 1 = l.length ∧ s1.err = 0 ∧ d1.map Decl.noE = (parseP l f s ds).2.map Decl.noE
  | 0, s, s', ds, ds', R, hs, hd, hf, h16, h => by omega
  | f + 1, s, s', ds, ds', R, hs, hd, hf, h16, h => by
    have hdl : ds'.length = ds.length := by have := congrArg List.length hd; simpa using this
    obtain ⟨RR, hRR⟩ : ∃ RR, RR = parseP l (f + 1) s ds := ⟨_, rfl⟩
    rw [← hRR] at h ⊢
    rw [parseP] at hRR
    by_cases c : s.err = 0 ∧ ¬ (nowP l s).kind = 4
    · rw [if_pos c] at hRR
      have hs2 := T.more hs (.inl c.2)
      have hsM : s.pos ≤ l.length - 2 := by omega
      by_cases d : ds.length = 16
      · rw [if_pos d] at hRR
        rw [hRR] at h
        exact absurd h (fail_err (by decide) _)
      · rw [if_neg d] at hRR
        subst hRR
        by_cases e : (declP l s).2.err = 0
        · have hp := decl_pos T hs
          have R0 := R.pos
          obtain ⟨x1, x2⟩ := decl_sim T T' (A (by omega)) R hs (by omega) e (by omega)
          have c' : s'.err = 0 ∧ ¬ (nowP l' s').kind = 4 := ⟨R.err.trans c.1, by rw [kind_sim (A (by omega)) R hsM]; exact c.2⟩
          obtain ⟨g, s1, d1, q⟩ := parse_a T T' A hk hl f (declP l s).2 (declP l' s').2 (ds ++ [(declP l s).1]) (ds' ++ [(declP l' s').1]) x2 hp (by simp [hd, x1]) (by simp; omega) (by simp; omega) h
          refine ⟨g, s1, d1, ?_, q.2⟩
          rw [parseP, if_pos c', if_neg (by omega)]
          exact q.1
        · rw [parse_stop e] at h
          exact absurd h e
    · rw [if_neg c] at hRR
      subst hRR
      have h0 : s.err = 0 := h
      have h4 : (nowP l s).kind = 4 := by
        by_cases h4 : (nowP l s).kind = 4
        · exact h4
        · exact absurd ⟨h0, h4⟩ c
      rw [now_eq hs] at h4
      have := hk _ _ (List.getElem?_eq_getElem hs) h4
      exact ⟨f + 1, s', ds', rfl, by omega, by omega, by have := R.pos; omega, R.err.trans h0, hd⟩
/-- The second text's. -/
theorem parse_b {k M : Nat} (T : TL l) (T' : TL l') (A : ∀ M, Ag l l' k M) (hl : l.length + k ≤ l'.length) (D : List Decl) :
    ∀ (f g : Nat) (s s' : PS) (ds ds' : List Decl), Rl k s s' → s.pos < l.length → ds'.map Decl.noE = ds.map Decl.noE → f + ds.length = 17 → ds.length ≤ 16 → g + (D ++ ds').length = 17 → (D ++ ds').length ≤ 16 → (parseP l f s ds).1.err = 0 →
      (D.length + (parseP l f s ds).2.length ≤ 16 → (parseP l' g s' (D ++ ds')).1.err = 0 ∧ (parseP l' g s' (D ++ ds')).2.map Decl.noE = D.map Decl.noE ++ (parseP l f s ds).2.map Decl.noE) ∧
      (16 < D.length + (parseP l f s ds).2.length → (parseP l' g s' (D ++ ds')).1.err = 3)
  | 0, g, s, s', ds, ds', R, hs, hd, hf, h16, hg, hg16, h => by omega
  | f + 1, 0, s, s', ds, ds', R, hs, hd, hf, h16, hg, hg16, h => by omega
  | f + 1, g + 1, s, s', ds, ds', R, hs, hd, hf, h16, hg, hg16, h => by
    have hdl : ds'.length = ds.length := by have := congrArg List.length hd; simpa using this
    have hDl : (D ++ ds').length = D.length + ds.length := by rw [List.length_append, hdl]
    have hkd := kind_sim (A s.pos) R (Nat.le_refl _)
    obtain ⟨RR, hRR⟩ : ∃ RR, RR = parseP l (f + 1) s ds := ⟨_, rfl⟩
    rw [← hRR] at h ⊢
    rw [parseP] at hRR
    rw [parseP, R.err, hkd]
    by_cases c : s.err = 0 ∧ ¬ (nowP l s).kind = 4
    · rw [if_pos c] at hRR; rw [if_pos c]
      by_cases d : ds.length = 16
      · rw [if_pos d] at hRR
        rw [hRR] at h
        exact absurd h (fail_err (by decide) _)
      · rw [if_neg d] at hRR
        subst hRR
        by_cases e : (declP l s).2.err = 0
        · have hlen := parse_len l f (declP l s).2 (ds ++ [(declP l s).1])
          rw [List.length_append] at hlen
          simp at hlen
          by_cases d' : (D ++ ds').length = 16
          · rw [if_pos d']
            refine ⟨fun q => by omega, fun _ => ?_⟩
            unfold failP
            rw [if_pos (R.err.trans c.1)]
          · rw [if_neg d']
            have hp := decl_pos T hs
            have R0 := R.pos
            obtain ⟨x1, x2⟩ := decl_sim T T' (A (declP l s).2.pos) R hs (by omega) e (by omega)
            have := parse_b (M := M) T T' A hl D f g (declP l s).2 (declP l' s').2 (ds ++ [(declP l s).1]) (ds' ++ [(declP l' s').1]) x2 hp (by simp [hd, x1]) (by simp; omega) (by simp; omega)
              (by rw [← List.append_assoc, List.length_append]; simp only [List.length_singleton]; omega) (by rw [← List.append_assoc, List.length_append]; simp only [List.length_singleton]; omega) h
            rw [← List.append_assoc] at this
            exact this
        · rw [parse_stop e] at h
          exact absurd h e
    · rw [if_neg c] at hRR; rw [if_neg c]
      subst hRR
      refine ⟨fun _ => ⟨R.err.trans h, by rw [List.map_append, hd]⟩, fun q => by simp only at q; omega⟩
end
abbrev endS : TT3 := (4, ⟨#[]⟩, 0)
theorem strip_get (l : List Tok) (i : Nat) : (l[i]?.getD default).strip = ((l.map Tok.strip)[i]?).getD (default : Tok).strip := by
  rw [List.getElem?_map]
  cases l[i]? <;> rfl
theorem ok_parts {s : ByteArray} (h : (parseR s).1 = 0) : s.size ≤ 1024 ∧ ∃ ts l, Lx s.data.toList ts ∧ TL l ∧ l.map Tok.strip = ts ++ [endS] ∧ (tokD l).1.err = 0 ∧ parseR s = (0, 0, (tokD l).2) := by
  by_cases hb : 1024 < s.size
  · unfold parseR at h
    rw [if_pos hb] at h
    simp at h
  · unfold parseR at h ⊢
    rw [if_neg hb] at h ⊢
    by_cases h0 : (lexR (s.size + 1) (restB s 0) 0 []).1 = 0
    · rw [if_pos h0] at h ⊢
      obtain ⟨ts, q1, q2⟩ := lx_of _ _ _ _ (by rw [rest_len]; omega) h0
      by_cases he : (tokD ((lexR (s.size + 1) (restB s 0) 0 []).2.2 ++ [endT s])).1.err = 0
      · rw [if_pos he]
        refine ⟨by omega, ts, _, q1, TL_of (s := s) (by omega), ?_, he, rfl⟩
        rw [List.map_append, q2]
        rfl
      · rw [if_neg he] at h
        exact absurd h he
    · rw [if_neg h0] at h
      exact absurd h h0
theorem parts_ok {s : ByteArray} (hs : s.size ≤ 1024) {ts : List TT3} (h : Lx s.data.toList ts) : ∃ l, TL l ∧ l.map Tok.strip = ts ++ [endS] ∧ parseR s = if (tokD l).1.err = 0 then (0, 0, (tokD l).2) else ((tokD l).1.err, (tokD l).1.eat, []) := by
  obtain ⟨q1, q2⟩ := of_lx (s.size + 1) (restB s 0) 0 [] ts h (by rw [rest_len]; omega)
  refine ⟨_, TL_of (s := s) (by omega), ?_, ?_⟩
  · rw [List.map_append, q2]
    rfl
  · unfold parseR
    rw [if_neg (by omega), if_pos q1]
theorem last_kind {l : List Tok} {ts : List TT3} (hl : l.map Tok.strip = ts ++ [endS]) (hk : ∀ t ∈ ts, ¬ t.1 = 4) : ∀ i t, l[i]? = some t → t.kind = 4 → i + 1 = l.length := by
  intro i t hi h4
  have hlen : l.length = ts.length + 1 := by have := congrArg List.length hl; simpa using this
  have hil := (List.getElem?_eq_some_iff.1 hi).1
  by_cases e : i < ts.length
  · have hm : (l.map Tok.strip)[i]? = some t.strip := by rw [List.getElem?_map, hi]; rfl
    rw [hl, List.getElem?_append_left e] at hm
    exact absurd h4 (hk _ (List.mem_of_getElem? hm))
  · omega
theorem joins_law {a b : ByteArray} (ha : (parseR a).1 = 0) (hb : (parseR b).1 = 0) :
    (1024 < a.size + b.size + 1 ∨ 16 < (parseR a).2.2.length + (parseR b).2.2.length → (parseR (a ++ ⟨#[10]⟩ ++ b)).1 = 3) ∧
    (¬ (1024 < a.size + b.size + 1 ∨ 16 < (parseR a).2.2.length + (parseR b).2.2.length) → (parseR (a ++ ⟨#[10]⟩ ++ b)).1 = 0 ∧ (parseR (a ++ ⟨#[10]⟩ ++ b)).2.1 = 0 ∧ (parseR (a ++ ⟨#[10]⟩ ++ b)).2.2.map Decl.noE = ((parseR a).2.2 ++ (parseR b).2.2).map Decl.noE) := by
  have hsz : (a ++ ⟨#[10]⟩ ++ b).size = a.size + b.size + 1 := by
    rw [ByteArray.size_append, ByteArray.size_append]
    show a.size + 1 + b.size = _
    omega
  by_cases hbig : 1024 < a.size + b.size + 1
  · refine ⟨fun _ => ?_, fun q => absurd (.inl hbig) q⟩
    unfold parseR
    rw [if_pos (by omega)]
  · obtain ⟨_, ta, la, A1, A2, A3, A4, A5⟩ := ok_parts ha
    obtain ⟨_, tb, lb, B1, B2, B3, B4, B5⟩ := ok_parts hb
    have J1 : Lx (a ++ ⟨#[10]⟩ ++ b).data.toList (ta ++ tb) := by
      have := lx_join B1 A1
      simpa using this
    obtain ⟨l, L2, L3, L5⟩ := parts_ok (by omega) J1
    rw [A5, B5, L5]
    have na : la.length = ta.length + 1 := by have := congrArg List.length A3; simpa using this
    have nb : lb.length = tb.length + 1 := by have := congrArg List.length B3; simpa using this
    have nl : l.length = ta.length + tb.length + 1 := by have := congrArg List.length L3; simp at this; omega
    have AgA : 2 ≤ la.length → Ag la l 0 (la.length - 2) := by
      intro h2 i hi
      rw [strip_get, strip_get, A3, L3, Nat.add_zero, List.append_assoc, List.getElem?_append_left (by omega), List.getElem?_append_left (by omega)]
    have AgB : ∀ M, Ag lb l ta.length M := by
      intro M i hi
      rw [strip_get, strip_get, B3, L3, List.append_assoc, List.getElem?_append_right (l₁ := ta) (by omega), Nat.add_sub_cancel]
    obtain ⟨g, s1, d1, p1, p2, p3, p4, p5, p6⟩ := parse_a A2 L2 AgA (last_kind A3 (lx_kind A1)) (by omega) 17 ⟨0, 0, 0⟩ ⟨0, 0, 0⟩ [] [] ⟨rfl, rfl⟩ (by show 0 < la.length; omega) rfl rfl (by simp) A4
    have hT : tokD l = parseP l g s1 (d1 ++ []) := by rw [List.append_nil]; exact p1
    have hd1 : d1.length = (tokD la).2.length := by have := congrArg List.length p6; simp at this; exact this
    have := parse_b (k := ta.length) (M := 0) B2 L2 AgB (by omega) d1 17 g ⟨0, 0, 0⟩ s1 [] [] ⟨by show s1.pos = 0 + ta.length; omega, p5⟩ (by show 0 < lb.length; omega) rfl rfl (by simp) (by simpa using p2) (by simpa using p3) B4
    rw [← hT] at this
    obtain ⟨u, v⟩ := this
    have e1 : (parseP lb 17 ⟨0, 0, 0⟩ []).2 = (tokD lb).2 := rfl
    rw [e1, hd1] at u v
    refine ⟨fun q => ?_, fun q => ?_⟩
    · have h3 := v (by rcases q with q | q; omega; exact q)
      rw [if_neg (by rw [h3]; decide)]
      exact h3
    · obtain ⟨u1, u2⟩ := u (by have : ¬ 16 < (tokD la).2.length + (tokD lb).2.length := fun w => q (.inr w); omega)
      rw [if_pos u1]
      refine ⟨rfl, rfl, ?_⟩
      show (tokD l).2.map Decl.noE = _
      rw [u2, p6, List.map_append]
      rfl
theorem parse_fail {s : ByteArray} (h : ¬ (parseR s).1 = 0) : (parseR s).2.2 = [] := by
  unfold parseR at h ⊢
  split
  · rfl
  · rename_i hb
    rw [if_neg hb] at h
    split
    · rename_i h0
      rw [if_pos h0] at h
      split
      · rename_i he
        rw [if_pos he] at h
        exact absurd rfl h
      · rfl
    · rfl
end Go.Proofs.Ytjljhmeadfejhaa

/- What is parsed is not too great. -/
set_option maxRecDepth 100000
set_option linter.unusedVariables false
set_option linter.unusedSimpArgs false
namespace Go.Proofs.Ytjljhmeadfejhaa
open Go.Eng
section
variable {l : List Tok}
theorem now_small (T : TL l) (s : PS) : (nowP l s).text.size ≤ reachBytes := by
  unfold nowP
  cases h : l[s.pos]? with
  | none => exact Nat.zero_le _
  | some t => exact Nat.le_trans (T.small _ (List.mem_of_getElem? h)) (by decide)
theorem name_small (T : TL l) (s : PS) : (nameP l s).1.size ≤ reachBytes := by
  unfold nameP
  split
  · split
    · exact now_small T s
    · exact Nat.zero_le _
  · exact Nat.zero_le _
theorem ok_mk {kd : Int} {nm : ByteArray} {of : List Ty} (h1 : I64 kd) (h2 : nm.size ≤ reachBytes) (h3 : of.length < most) (h4 : ∀ t ∈ of, t.ok) : (Ty.mk kd nm of).ok := ⟨h1, h2, h3, (Ty.okL_iff _).2 h4⟩
theorem i64_to (n : Int) (h : 0 ≤ n ∧ n ≤ 10) : I64 n := by unfold I64; omega
theorem zero_ok : (Ty.mk 0 ⟨#[]⟩ []).ok := ok_mk (i64_to _ (by omega)) (Nat.zero_le _) (by decide) (by simp)
theorem plainM_le (w : ByteArray) : 0 ≤ plainM w ∧ plainM w ≤ 10 := by
  unfold plainM
  repeat' split
  all_goals omega
theorem base_ok (T : TL l) {rec : PS → Ty × PS} (hr : ∀ s, (rec s).1.ok) (s : PS) : (baseP l rec s).1.ok := by
  unfold baseP
  repeat' split
  · exact ok_mk (i64_to _ (plainM_le _)) (Nat.zero_le _) (by decide) (by simp)
  · refine ok_mk (i64_to _ (by omega)) (Nat.zero_le _) (by simp [most]) fun t ht => ?_
    simp only [List.mem_singleton] at ht
    subst ht
    exact hr _
  · refine ok_mk (i64_to _ (by omega)) (Nat.zero_le _) (by simp [most]) fun t ht => ?_
    simp only [List.mem_cons, List.not_mem_nil, or_false] at ht
    rcases ht with rfl | rfl
    · exact hr _
    · exact hr _
  · exact ok_mk (i64_to _ (by omega)) (name_small T s) (by decide) (by simp)
theorem typ_ok (T : TL l) : ∀ (f : Nat) (s : PS), (typP l f s).1.ok
  | 0, s => zero_ok
  | f + 1, s => by
    rw [typP]
    have hb := base_ok T (typ_ok T f) s
    repeat' split
    · refine ok_mk (i64_to _ (by omega)) (Nat.zero_le _) (by simp [most]) fun t ht => ?_
      simp only [List.mem_singleton] at ht
      subst ht
      exact hb
    · exact hb
    · exact zero_ok
theorem rows_inv {σ : Type} {step : PS → σ → PS × σ} (P : Nat → σ → Prop) (hs : ∀ n s x, P n x → P (n + 1) (step s x).2) (hmono : ∀ n x, P n x → P (n + 1) x) : ∀ (f n m : Nat) (s : PS) (x : σ), P m x → P (m + f) (rowsP l step f n s x).2
  | 0, n, m, s, x, h => h
  | f + 1, n, m, s, x, h => by
    have up : ∀ j, P (m + j) x := fun j => by
      induction j with
      | zero => exact h
      | succ j ih => exact hmono _ _ ih
    rw [rowsP, show m + (f + 1) = m + 1 + f by omega]
    repeat' split
    · have := up (1 + f); rw [← Nat.add_assoc] at this; exact this
    · exact rows_inv P hs hmono f _ _ _ _ (hmono _ _ h)
    · exact rows_inv P hs hmono f _ _ _ _ (hs _ _ _ h)
    · have := up (1 + f); rw [← Nat.add_assoc] at this; exact this
theorem fields_ok (T : TL l) (s : PS) : (fieldsP l s).2.length < 1000000000 ∧ ∀ f ∈ (fieldsP l s).2, f.ty.ok := by
  have hT := T.len
  have := rows_inv (l := l) (step := fStep l) (fun n (x : List Fld) => x.length ≤ n ∧ ∀ f ∈ x, f.ty.ok) (fun n s x h => ⟨by simp [fStep]; exact h.1, fun f hf => by
    simp only [fStep, List.mem_append, List.mem_singleton] at hf
    rcases hf with hf | rfl
    · exact h.2 f hf
    · exact typ_ok T _ _⟩) (fun n x h => ⟨by omega, h.2⟩) (l.length + 2) 0 0 (needP l ⟨#[123]⟩ s) [] ⟨Nat.le_refl _, by simp⟩
  exact ⟨Nat.lt_of_le_of_lt this.1 (by omega), this.2⟩
theorem values_ok (T : TL l) (s : PS) : (valuesP l s).2.length < 1000000000 ∧ ∀ f ∈ (valuesP l s).2, f.ty.ok := by
  have hT := T.len
  have := rows_inv (l := l) (step := eStep l) (fun n (x : List Fld) => x.length ≤ n ∧ ∀ f ∈ x, f.ty.ok) (fun n s x h => ⟨by simp [eStep]; exact h.1, fun f hf => by
    simp only [eStep, List.mem_append, List.mem_singleton] at hf
    rcases hf with hf | rfl
    · exact h.2 f hf
    · exact zero_ok⟩) (fun n x h => ⟨by omega, h.2⟩) (l.length + 2) 0 0 (needP l ⟨#[123]⟩ s) [] ⟨Nat.le_refl _, by simp⟩
  exact ⟨Nat.lt_of_le_of_lt this.1 (by omega), this.2⟩
theorem meths_ok (T : TL l) (s : PS) : (methsP l s).2.length < 1000000000 := by
  have hT := T.len
  have := rows_inv (l := l) (step := mStep l) (fun n (x : List Mth) => x.length ≤ n) (fun n s x h => by simp [mStep]; exact h) (fun n x h => by omega) (l.length + 2) 0 0 (needP l ⟨#[123]⟩ s) [] (Nat.le_refl _)
  exact Nat.lt_of_le_of_lt this (by omega)
theorem decl_fit (T : TL l) (s : PS) : (declP l s).1.fitS := by
  have hF : ∀ e kd s, (withF l e kd s).1.fitS := fun e kd s => ⟨(fields_ok T _).1, by simp [withF], (fields_ok T _).2⟩
  have hE : ∀ e kd s, (withE l e kd s).1.fitS := fun e kd s => ⟨(values_ok T _).1, by simp [withE], (values_ok T _).2⟩
  have hM : ∀ e kd s, (withM l e kd s).1.fitS := fun e kd s => ⟨by simp [withM], meths_ok T _, by simp [withM]⟩
  unfold declP
  repeat' split
  · exact hF _ _ _
  · exact hF _ _ _
  · exact hE _ _ _
  · exact hM _ _ _
  · exact hF _ _ _
theorem parse_fit (T : TL l) : ∀ (f : Nat) (s : PS) (ds : List Decl), (∀ d ∈ ds, d.fitS) → ∀ d ∈ (parseP l f s ds).2, d.fitS
  | 0, s, ds, h => h
  | f + 1, s, ds, h => by
    rw [parseP]
    repeat' split
    · exact h
    · refine parse_fit T f _ _ fun d hd => ?_
      rcases List.mem_append.1 hd with hd | hd
      · exact h d hd
      · simp only [List.mem_singleton] at hd
        subst hd
        exact decl_fit T s
    · exact h
theorem parse_max : ∀ (f : Nat) (s : PS) (ds : List Decl), (parseP l f s ds).2.length ≤ ds.length + f
  | 0, s, ds => Nat.le_refl _
  | f + 1, s, ds => by
    rw [parseP]
    repeat' split
    · simp
    · have := parse_max f (declP l s).2 (ds ++ [(declP l s).1])
      rw [List.length_append] at this
      simp at this
      omega
    · simp
end
theorem parseR_fit (s : ByteArray) : (parseR s).2.2.length ≤ 17 ∧ ∀ d ∈ (parseR s).2.2, d.fitS := by
  by_cases h : (parseR s).1 = 0
  · obtain ⟨_, ts, l, _, T, _, _, e⟩ := ok_parts h
    rw [e]
    exact ⟨by have := parse_max (l := l) 17 ⟨0, 0, 0⟩ []; simp at this; exact this, parse_fit T 17 _ [] (by simp)⟩
  · rw [parse_fail h]; simp
end Go.Proofs.Ytjljhmeadfejhaa

/- ParseJoins, about the engine. -/
set_option maxRecDepth 100000
set_option linter.unusedVariables false
set_option linter.unusedSimpArgs false
namespace Go.Proofs.Ytjljhmeadfejhaa
open Go.Eng
@[simp] theorem lenA_rowJ (l : List AV) : lenA (rowJ l) = some l.length := by cases l <;> simp [rowJ]
theorem elems_rowJ (l : List AV) : elems (rowJ l) = some l := by cases l <;> simp [rowJ]
theorem av_good (ds : List Decl) : ((ds.map Decl.av).all fun y => decide (y.cells.length = 5) && y.cells.all AV.one) = true := by
  rw [List.all_eq_true]
  intro y hy
  obtain ⟨d, _, rfl⟩ := List.mem_map.1 hy
  rfl
theorem appA_esl (H : List AO) (y : Decl) (Y : List Decl) (hl : (y :: Y).length ≤ 100) : appA H 34 5 80 .esl (y.av :: Y.map Decl.av) = some (.osl H.length ((y :: Y).map Decl.av), H ++ [.tok 34 5 (y :: Y).length]) := by
  have g := av_good (y :: Y)
  have hb : ((y :: Y).map Decl.av).length * 80 ≤ 140737488355328 := by rw [List.length_map]; omega
  rw [show y.av :: Y.map Decl.av = (y :: Y).map Decl.av from rfl]
  unfold appA
  rw [if_neg (by rw [g]; simp)]
  rw [List.map_cons] at hb ⊢
  simp only
  rw [if_pos hb]
  simp
theorem appA_nil (H : List AO) : appA H 34 5 80 .esl [] = some (.esl, H) := by simp [appA]
theorem appA_osl (H : List AO) (x : Decl) (X : List Decl) (Y : List Decl) (hl : (x :: X).length + Y.length ≤ 100) : appA (H ++ [.tok 34 5 (x :: X).length]) 34 5 80 (.osl H.length ((x :: X).map Decl.av)) (Y.map Decl.av) = some (.osl H.length ((x :: X ++ Y).map Decl.av), H ++ [.tok 34 5 ((x :: X).length + Y.length)]) := by
  have g := av_good Y
  have hb : (((x :: X).map Decl.av).length + (Y.map Decl.av).length) * 80 ≤ 140737488355328 := by rw [List.length_map, List.length_map]; omega
  unfold appA
  rw [if_neg (by rw [g]; simp)]
  simp only [List.getElem?_concat_length]
  rw [if_pos (by simp at hb ⊢; exact hb)]
  simp [List.set_append_right]
section
variable {h : List AO} {K : ARes → List AO → Prop}
theorem w9 {a b : ByteArray} (ha : a.size ≤ reachBytes) (hb : b.size ≤ reachBytes) (k : K (.ok (.bool true)) h) : W 9 [.str a, .str b] h K := by
  refine W_of mixed c9 (by simp [A9]) ?_
  have hr : reachBytes = 140737488351232 := rfl
  simp [A9]
  refine w31 ?_
  simp [parseA, fillA, setL]
  refine w31 ?_
  simp [parseA, fillA, setL]
  by_cases ea : (parseR a).1 = 0
  · by_cases eb : (parseR b).1 = 0
    · have s1 : a.size + (⟨#[10]⟩ : ByteArray).size ≤ 9223372036854775807 := by
        show a.size + 1 ≤ _
        omega
      have s2 : a.size + (⟨#[10]⟩ : ByteArray).size + b.size ≤ 9223372036854775807 := by
        show a.size + 1 + b.size ≤ _
        omega
      simp [ea, eb, s1, s2]
      refine w31 ?_
      obtain ⟨lx, fx⟩ := parseR_fit a
      obtain ⟨ly, fy⟩ := parseR_fit b
      obtain ⟨lz, fz⟩ := parseR_fit (a ++ ⟨#[10]⟩ ++ b)
      obtain ⟨law1, law2⟩ := joins_law ea eb
      have e1 : IntKind.i64.wrap ((a.size : Int) + (b.size : Int)) = (a.size : Int) + (b.size : Int) := wrap_i64 _ (by omega) (by omega)
      have e2 : IntKind.i64.wrap ((a.size : Int) + (b.size : Int) + 1) = (a.size : Int) + (b.size : Int) + 1 := wrap_i64 _ (by omega) (by omega)
      have e3 : IntKind.i64.wrap (((parseR a).2.2.length : Int) + ((parseR b).2.2.length : Int)) = ((parseR a).2.2.length : Int) + ((parseR b).2.2.length : Int) := wrap_i64 _ (by omega) (by omega)
      simp [parseA, fillA, setL, e1, e2]
      by_cases c1 : 1024 < a.size + b.size + 1
      · have c1' : (1024 : Int) < (a.size : Int) + (b.size : Int) + 1 := by omega
        have g := law1 (.inl c1)
        simp [c1', g]
        refine w30 ?_
        simp
        exact ret_pureJ (by simp) k
      · have c1' : ¬ (1024 : Int) < (a.size : Int) + (b.size : Int) + 1 := by omega
        simp [c1', -lenA, lenA_rowJ, e3]
        by_cases c2 : 16 < (parseR a).2.2.length + (parseR b).2.2.length
        · have c2' : (16 : Int) < ((parseR a).2.2.length : Int) + ((parseR b).2.2.length : Int) := by omega
          have g := law1 (.inr c2)
          simp [c2', g]
          refine w30 ?_
          simp
          exact ret_pureJ (by simp) k
        · have c2' : ¬ (16 : Int) < ((parseR a).2.2.length : Int) + ((parseR b).2.2.length : Int) := by omega
          obtain ⟨g1, g2, g3⟩ := law2 (fun e => e.elim c1 c2)
          simp [c2', g1, g2]
          have hrow : ∀ (H : List AO) (K : ARes → List AO → Prop), K (.ok (.bool true)) H → W 32 [.rsl ((parseR (a ++ ⟨#[10]⟩ ++ b)).2.2.map Decl.av), .rsl (((parseR a).2.2 ++ (parseR b).2.2).map Decl.av), .bool false] H K := fun H K k => w32 g3 (by omega) fz k
          generalize (parseR a).2.2 = X at *
          generalize (parseR b).2.2 = Y at *
          have hXY : X.length + Y.length ≤ 100 := by omega
          cases X with
          | nil =>
            cases Y with
            | nil =>
              simp [fillA, elems_rowJ, appA_nil]
              refine hrow _ _ ?_
              simp
              refine w30 ?_
              simp
              exact ret_pureJ (by simp) k
            | cons y Y =>
              have q := fun H => appA_esl H y Y (by simp at hXY ⊢; omega)
              have e0 : elems .esl = some [] := rfl
              simp [fillA, elems_rowJ, appA_nil, -elems, q, e0]
              refine hrow _ _ ?_
              simp
              refine w30 ?_
              simp
              exact ret_pureJ (by simp) k
          | cons x X =>
            have q := fun H => appA_esl H x X (by simp at hXY ⊢; omega)
            have q2 := appA_osl (h ++ [.box [.int .i64 0, .int .i64 (parseR a).2.1], .box [.int .i64 0, .int .i64 (parseR b).2.1], .box [.int .i64 0, .int .i64 0]]) x X Y (by simp at hXY ⊢; omega)
            simp at q2
            simp [fillA, elems_rowJ, -elems, q, q2]
            rw [← List.map_append, ← List.map_cons, ← List.cons_append]
            refine hrow _ _ ?_
            simp
            refine w30 ?_
            simp
            exact ret_pureJ (by simp) k
    · have yb := parse_fail eb
      simp [ea, eb, yb]
      refine w30 ?_
      simp
      exact ret_pureJ (by simp) k
  · have xa := parse_fail ea
    by_cases eb : (parseR b).1 = 0
    · simp [ea, eb, xa]
      refine w30 ?_
      simp
      exact ret_pureJ (by simp) k
    · have yb := parse_fail eb
      simp [ea, eb, xa, yb]
      refine w30 ?_
      simp
      exact ret_pureJ (by simp) k
end
end Go.Proofs.Ytjljhmeadfejhaa
