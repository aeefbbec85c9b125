/- OpsFits, about the engine. -/
import Derived.Test.YtjljhmeadfejhaaV6
set_option maxRecDepth 100000
set_option linter.unusedVariables false
set_option linter.unusedSimpArgs false
namespace Go.Proofs.Ytjljhmeadfejhaa
open Go.Eng
theorem tyN_ok (n : Int) : (tyN n).ok := by
  have e : (0 : Nat) ≤ reachBytes := Nat.zero_le _
  have s0 : (⟨#[]⟩ : ByteArray).size ≤ reachBytes := e
  have i : ∀ k : Int, 0 ≤ k → k ≤ 9 → I64 k := fun k h1 h2 => ⟨by omega, by omega⟩
  have b : ∀ k : Int, 0 ≤ k → k ≤ 9 → (Ty.mk k ⟨#[]⟩ []).ok := fun k h1 h2 => ⟨i k h1 h2, s0, by simp [most], trivial⟩
  unfold tyN
  split
  · exact b 4 (by omega) (by omega)
  · split
    · exact b 2 (by omega) (by omega)
    · split
      · exact b 3 (by omega) (by omega)
      · split
        · exact b 1 (by omega) (by omega)
        · exact ⟨i 9 (by omega) (by omega), s0, by simp [most], b 4 (by omega) (by omega), trivial⟩
theorem opIn_ok (op : Int) : ∀ t ∈ opIn op, t.ok := by
  rw [← numIn_ty]
  intro t ht
  obtain ⟨n, _, rfl⟩ := List.mem_map.1 ht
  exact tyN_ok n
theorem opOut_ok (op : Int) : ∀ t ∈ opOut op, t.ok := by
  rw [← numOut_ty]
  intro t ht
  obtain ⟨n, _, rfl⟩ := List.mem_map.1 ht
  exact tyN_ok n
theorem w37I {op : Int} {h : List AO} {K : ARes → List AO → Prop} (k : K (.ok (rowV ((opIn op).map Ty.av))) h) : W 37 [.rsl ((numIn op).map iv)] h K :=
  w37 (numIn_57 op).1 (numIn_57 op).2 (by rw [numIn_ty]; exact k)
theorem w37O {op : Int} {h : List AO} {K : ARes → List AO → Prop} (k : K (.ok (rowV ((opOut op).map Ty.av))) h) : W 37 [.rsl ((numOut op).map iv)] h K :=
  w37 (numOut_57 op).1 (numOut_57 op).2 (by rw [numOut_ty]; exact k)
theorem fldsOf_facts {ds : List Decl} (hok : ∀ d ∈ ds, d.ok) (hf : ∀ d ∈ ds, d.fit) (hc : (checkM ds).1 = 0) (s : ByteArray) (hk : kindR s ds = 1) :
    (fldsOf ds s).Pairwise (fun a b => a.tag ≠ b.tag) ∧ (∀ f ∈ fldsOf ds s, 0 ≤ f.tag) ∧ (fldsOf ds s).length ≤ 30 ∧ ∀ f ∈ fldsOf ds s, f.ok := by
  obtain ⟨n, d, h1, h2, h3, h4⟩ := struct_of hc hk
  have e : fldsOf ds s = d.fields := by simp [fldsOf, h1, h2]
  have hd := List.mem_of_getElem? h2
  rw [e]
  exact ⟨h4, fun f hf => by have := (h3 f hf).2; omega, (hf d hd).1, (hok d hd).2.2.2.2.2.1⟩
theorem w10 {h : List AO} {ds : List Decl} {m : Mth} {op : Int} (hl : ds.length < 2199023255552) (hok : ∀ d ∈ ds, d.ok) {K : ARes → List AO → Prop} (k : ∀ H', K (.ok (.bool true)) H') : W 10 [.rsl (ds.map Decl.av), m.av, .int .i64 op] h K := by
  refine W_of mixed c10 (by simp [A10]) ?_
  simp [A10, Mth.av]
  refine w23 hl hok ?_
  cases hg : greatFrom 0 ds with
  | true =>
    simp
    refine w33 ?_
    simp
    exact .inl (k _)
  | false =>
    obtain ⟨l21, hfit⟩ := fit_of hg
    have hl' : ds.length < 1099511627776 := by omega
    simp
    refine wMade hl' hok hfit (fun he => ?_) (fun he => ?_)
    · simp
      refine w35 ?_
      simp
      refine R_regE (by decide) ?_
      simp
      refine ⟨_, w38 ⟨rfl, rfl⟩, ?_⟩
      simp
      refine ⟨_, w37I ⟨rfl, rfl⟩, ?_⟩
      simp
      refine ⟨_, w36 (opIn_len op) (opIn_ok op) rfl ⟨rfl, rfl⟩, ?_⟩
      simp
      refine ⟨_, w39 ⟨rfl, rfl⟩, ?_⟩
      simp
      refine ⟨_, w37O ⟨rfl, rfl⟩, ?_⟩
      simp
      refine ⟨_, w36 (opOut_len op) (opOut_ok op) rfl ⟨rfl, rfl⟩, ?_⟩
      simp
      refine ⟨_, w40N (m := m) ⟨rfl, rfl⟩, ?_⟩
      try simp
      refine ⟨_, w41 (ds := []) (m := m) (by simp) (by simp) (fun s hk => by simp [kindR, fnd] at hk) ⟨rfl, rfl⟩, ?_⟩
      simp
      refine ⟨_, w33 ⟨rfl, rfl⟩, ?_⟩
      exact .inl (k _)
    · obtain ⟨bx, hbx⟩ : ∃ bx, bx = AO.box [.int .i64 m.tag, .str m.name, .str m.inn, .str m.out, .bool m.oneWay] := ⟨_, rfl⟩
      rw [← hbx]
      obtain ⟨di, hdi⟩ : ∃ di, di = (h ++ [bx]).length + 2 := ⟨_, rfl⟩
      rw [← hdi]
      obtain ⟨H, hH⟩ : ∃ H, H = h ++ [bx] ++ [AO.box [.int .i64 0, .int .i64 0], AO.box [.int .i64 0, .int .i64 (checkM ds).2], AO.box (descB ds), AO.box [.int .i64 0, .int .i64 0]] := ⟨_, rfl⟩
      rw [← hH]
      have D : Dsc H di ds := .inl (by rw [hH, hdi, List.getElem?_append_right (by omega)]; simp)
      have hb : H[h.length]? = some bx := by rw [hH]; simp
      have hne : di ≠ h.length := by rw [hdi]; simp; omega
      have hb2 : (H.set di (.box []))[h.length]? = some bx := by rw [List.getElem?_set_ne hne]; exact hb
      rw [hbx] at hb hb2
      have t := told_of hl' hok hfit he
      simp
      refine w35 ?_
      simp
      refine R_regX ?_
      simp
      refine ⟨_, _, w38 ⟨rfl, rfl⟩, ?_⟩
      simp
      refine ⟨_, _, w37I ⟨rfl, rfl⟩, ?_⟩
      simp
      refine ⟨_, _, w36 (opIn_len op) (opIn_ok op) rfl ⟨rfl, rfl⟩, ?_⟩
      simp
      refine ⟨_, _, w39 ⟨rfl, rfl⟩, ?_⟩
      simp
      refine ⟨_, _, w37O ⟨rfl, rfl⟩, ?_⟩
      simp
      refine ⟨_, _, w36 (opOut_len op) (opOut_ok op) rfl ⟨rfl, rfl⟩, ?_⟩
      simp [hb]
      refine ⟨_, _, WC_forget (x := .int .i64 (fitsR ds m op)) (i := di) (fun _ _ => by simp [out]) (w40 (m := m) t he D (fun H' a b c => ⟨rfl, a, b, c⟩)), ?_⟩
      simp [hb2]
      refine ⟨_, _, w41 (m := m) hl' hok (fun s hk => fldsOf_facts hok hfit he s hk) ⟨rfl, rfl⟩, ?_⟩
      simp
      refine ⟨_, _, w33 ⟨rfl, rfl⟩, ?_⟩
      refine ⟨?_, .inl (k _)⟩
      intro p hp o' Fi Fk Fk' a1 a2 a3 a4
      simp at hp
      rcases hp with rfl
      simp at a1 a2 a3 a4
      subst a1 a2 a3 a4
      simp [Go.Eng.valOf, hb, hb2]
end Go.Proofs.Ytjljhmeadfejhaa
