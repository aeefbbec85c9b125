/- BlankLeast, about the engine: the whole. -/
import Derived.Test.YtjljhmeadfejhaaGreatB13
set_option maxRecDepth 100000
set_option linter.unusedVariables false
set_option linter.unusedSimpArgs false
namespace Go.Proofs.YtjljhmeadfejhaaGreat
open Go.Eng
theorem w5 {h : List AO} {ds : List Decl} {s : ByteArray} {v : Val} (hl : ds.length < 2199023255552) (hok : ∀ d ∈ ds, d.ok) (hs : s.size ≤ reachBytes) (hv : v.ok) {K : ARes → List AO → Prop} (k : ∀ H', K (.ok (.bool true)) H') : W 5 [.rsl (ds.map Decl.av), .str s, v.av] h K := by
  have htx := txt_of _ v (Nat.le_refl _) hv
  refine W_of mixed c5 (by simp [A5]) ?_
  simp [A5, Val.av, Val.cells_eq]
  refine w17 hl hok ?_
  cases hg : greatFrom 0 ds with
  | true =>
    simp
    refine w24 ?_
    simp
    exact .inl (k _)
  | false =>
    obtain ⟨l21, hfit⟩ := fit_of hg
    have hl' : ds.length < 1099511627776 := by omega
    simp
    refine w18 _ v (Nat.le_refl _) hv _ _ _ ?_
    cases hgv : greatM v 0 with
    | true =>
      simp
      refine w24 ?_
      simp
      exact .inl (k _)
    | false =>
      have hd := great_depth v 0 (by omega) hgv
      have hd1 : v.depth ≤ 1000 := by omega
      simp
      refine wMade hl' hok hfit (fun he => ?_) (fun he => ?_)
      · simp
        refine w25 (ds := []) rowed_nil hs hv htx hd1 (fun e h0 => ?_)
        have hne : ¬ e = 0 := fun e0 => by have := (h0 e0).1; simp [kindR, fnd] at this
        simp [hne]
        refine w24 ?_
        simp
        exact .inl (k _)
      · obtain ⟨G, T⟩ := good_of hl' hok hfit he
        obtain ⟨bx, hbx⟩ : ∃ bx, bx = AO.box (vcells v) := ⟨_, rfl⟩
        obtain ⟨di, hdi⟩ : ∃ di, di = (h ++ [AO.box (vcells v)]).length + 2 := ⟨_, rfl⟩
        rw [← hdi]
        obtain ⟨H, hH⟩ : ∃ H, H = h ++ [AO.box (vcells v)] ++ [AO.box [.int .i64 0, .int .i64 0], AO.box [.int .i64 0, .int .i64 (checkM ds).2], AO.box (descB ds), AO.box [.int .i64 0, .int .i64 0]] := ⟨_, rfl⟩
        rw [← hH]
        have D : Dsc H di ds := .inl (by rw [hH, hdi, List.getElem?_append_right (by omega)]; simp)
        have hb : H[h.length]? = some (.box (vcells v)) := by rw [hH]; simp
        have hlt : h.length < H.length := by rw [hH]; simp
        have hne : h.length ≠ di := by rw [hdi]; simp; omega
        simp [hb]
        refine w25 G.rowed hs hv htx hd1 (fun e h0 => ?_)
        by_cases e0 : e = 0
        · obtain ⟨hk, hw, h8, hin⟩ := h0 e0
          have hty : typM ds (.mk 6 s []) false = 0 := by
            rw [typM, if_neg (by simp [arM]), if_pos rfl, if_pos (.inl hk)]
          have law := blank_law G T _ v hw _ (.mk 6 s []) false (Nat.le_refl _) hty (Nat.le_refl _) hin
          simp [e0]
          refine w26 G hs D (fun H' n u hL old => ?_)
          have hb' : H'[h.length]? = some (.box (vcells v)) := by rw [old _ hlt hne]; exact hb
          have hb2 : ∀ X : List AO, (H' ++ X)[h.length]? = some (.box (vcells v)) := fun X => by rw [List.getElem?_append_left (List.getElem?_eq_some_iff.1 hb').1]; exact hb'
          obtain ⟨n1, n2⟩ : 1 ≤ n ∧ n ≤ v.depth := by
            rcases hL hk with ⟨_, _, q⟩ | ⟨q1, q2, q3, q4⟩
            · rw [q _ h8] at law; cases law
            · refine ⟨q1, ?_⟩
              by_cases hle : n ≤ v.depth
              · exact hle
              · rw [q4 _ (by omega)] at law; cases law
          have n1' : (1 : Int) ≤ (n : Int) := by omega
          have n2' : (n : Int) ≤ (v.depth : Int) := by omega
          simp [resC, n1, n1', hb2]
          refine w27 _ v (Nat.le_refl _) hv hd1 _ _ ?_
          simp [n2, n2']
          refine w24 ?_
          simp
          exact .inl (k _)
        · simp [e0]
          refine w24 ?_
          simp
          exact .inl (k _)
end Go.Proofs.YtjljhmeadfejhaaGreat
