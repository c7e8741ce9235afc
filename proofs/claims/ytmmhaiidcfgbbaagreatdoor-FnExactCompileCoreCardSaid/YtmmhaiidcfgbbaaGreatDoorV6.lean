/- Cores that are made to code: the program's kids of cores, and all of it. -/
import Derived.Test.YtmmhaiidcfgbbaaGreatDoorV5
import Derived.Test.YtmmhaiidcfgbbaaGreatDoorD2
set_option linter.unusedSectionVars false
set_option linter.unusedSimpArgs false
set_option linter.unusedVariables false
namespace Go.Proofs.YtmmhaiidcfgbbaaGreatDoor.E
open Go Go.RowKit
set_option maxRecDepth 100000
def kidsTo (cs : List Cor) (i x : Nat) : List Nat := (List.range i).filter fun j => decide ((corAt cs j).parent = (x : Int))
theorem kidsTo_succ (cs : List Cor) (i x : Nat) : kidsTo cs (i + 1) x = kidsTo cs i x ++ (if (corAt cs i).parent = (x : Int) then [i] else []) := by
  unfold kidsTo
  rw [List.range_succ, List.filter_append]
  congr 1
  by_cases c : (corAt cs i).parent = (x : Int) <;> simp [c]
theorem kidsTo_le (cs : List Cor) (i x : Nat) : (kidsTo cs i x).length ≤ i := by
  unfold kidsTo
  exact Nat.le_trans (List.length_filter_le _ _) (by simp)
theorem map_modify {X : Type} (n p : Nat) (f g : Nat → X) (h : X → X) (hp : ∀ q, q < n → g q = if p = q then h (f q) else f q) : ((List.range n).map f).modify p h = (List.range n).map g := by
  apply List.ext_getElem (by simp)
  intro k h1 h2
  have hk : k < n := by simpa using h2
  simp only [List.getElem_modify, List.getElem_map, List.getElem_range, hp k hk]
variable [L : Lam]
variable {σ τ τ' : AH} {R : AEnd → AH → Prop}
theorem abox_new {x : AV} {xs : List AV} {k : AV → AH → Prop} (hx : acells x = some xs) (h : ∀ φ, σ φ = none → k (.ptr φ 0 0 0) (σ.set φ ⟨0, xs.length, [xs]⟩)) : abox x σ k := by
  unfold abox; rw [hx]; exact h
abbrev rowK (_ : List Nat) (a : AV) : List AV := [a]
abbrev innK (l : List Nat) : List (List AV) := l.map fun k : Nat => [iv (k : Int)]
theorem c_impl_kids {cs : List Cor} (hl : cs.length ≤ 1000000) (hp : ∀ i, i < cs.length → -1 ≤ (corAt cs i).parent ∧ (corAt cs i).parent < i) (h : R (.ret (roKK cs)) σ) : acall TP fn_impl_kids [roC cs] σ R := by
  refine s_impl_kids_ok ?_
  unfold s_impl_kids
  simp only [len_ro, RR]
  refine mk_LLi (by omega) (by omega) (by omega) fun φ hφ => ?_
  simp only [Int.toNat_natCast]
  have h0 : N2 rowK 1 innK 1 σ (σ.set φ ⟨0, 1, List.replicate cs.length [nilS]⟩) (.own φ 0 0 cs.length) (List.replicate cs.length ([], nilS)) := by
    refine ⟨.inr ⟨φ, 0, by simp, by rw [AH.set_same]; simp⟩, fun p hp => ?_, ?_, fun ψ hψ => ?_, .set (.refl σ) _ hφ⟩
    · obtain rfl := List.eq_of_mem_replicate hp; exact nilB
    · have : l2F (List.replicate cs.length (([] : List Nat), nilS)) = [] := by
        unfold l2F
        rw [List.flatMap_eq_nil_iff]
        intro p hp; obtain rfl := List.eq_of_mem_replicate hp; rfl
      rw [this]; simp [famL]
    · have : l2F (List.replicate cs.length (([] : List Nat), nilS)) = [] := by
        unfold l2F
        rw [List.flatMap_eq_nil_iff]
        intro p hp; obtain rfl := List.eq_of_mem_replicate hp; rfl
      rw [this] at hψ
      simp [famL] at hψ
      subst hψ; exact hφ
  refine lp_rel cs.length (fun i x τ => ∃ bs, x = (.own φ 0 0 cs.length, roC cs, iv (cs.length : Int), iv (i : Int), ()) ∧ N2 rowK 1 innK 1 σ τ (.own φ 0 0 cs.length) bs ∧ bs.map (·.1) = (List.range cs.length).map (kidsTo cs i)) ⟨_, rfl, h0, ?_⟩ ?_
  · apply List.ext_getElem (by simp)
    intro k h1 h2
    simp [kidsTo]
  rintro i _ τ hi ⟨bs, rfl, hN, hbs⟩ R' hR'
  have hbl : bs.length = cs.length := by have := congrArg List.length hbs; simpa using this
  by_cases hlt : i < cs.length
  · have g : (i : Int) < (cs.length : Int) := by omega
    simp only [g, idx_ro hlt len_encCor, corAt_eq hlt, lodA_all (len_encCor _), RR]
    refine new_encCor rfl ?_
    have l1 : ∀ τ, lod (.rop (encCor (corAt cs i)) 1) τ = some (iv (corAt cs i).parent) := fun _ => rfl
    simp only [l1, jn, RR]
    obtain ⟨p1, p2⟩ := hp i hlt
    by_cases c0 : 0 ≤ (corAt cs i).parent
    · simp only [c0, RR]
      obtain ⟨p, hpp⟩ : ∃ p : Nat, (corAt cs i).parent = (p : Int) := ⟨(corAt cs i).parent.toNat, by omega⟩
      rw [hpp]
      have hpl : p < bs.length := by omega
      obtain ⟨A, q, C, rfl, hA⟩ := split_at' hpl
      obtain ⟨φ', st', e', hF⟩ := hN.own (by simp)
      obtain ⟨rfl, rfl, _⟩ : φ = φ' ∧ 0 = st' ∧ True := by injection e' with a b; exact ⟨a, b, trivial⟩
      rw [hbl] at e'
      have ix : ∀ τ1 : AH, τ1 φ = some ⟨0, 1, (A ++ q :: C).map fun p => rowK p.1 p.2⟩ → idx 1 (.own φ 0 0 cs.length) (iv (p : Int)) τ1 = some (.ptr φ 0 p 0) := fun τ1 hF1 => by
        have := idx_own (st := 0) (off := 0) hF1 (show p < cs.length by omega)
        rwa [Nat.zero_add] at this
      have el : lod (.ptr φ 0 p 0) τ = some q.2 := lod_at hF rfl (by subst hA; simp [List.getD])
      simp only [ix τ hF, el, RR]
      rw [lit1 (sz := 1) (row := [iv (i : Int)]) rfl rfl (by omega)]
      simp only [RR]
      have hq1 : q.1 = kidsTo cs i p := by
        have := congrArg (fun l => l[p]?) hbs
        subst hA
        simp at this
        have h2 : A.length < cs.length := by omega
        simpa [h2] using this
      have hb : Buf τ 1 q.2 (innK q.1) := hN.ins q (by simp)
      have hql : q.1.length ≤ i := by rw [hq1]; exact kidsTo_le cs i p
      have hφφ : φ ∉ famL q.2 := fun c => (nodup_app.1 hN.nd).2.2 φ (by simp [famL]) (l2F_mem (by simp) c)
      refine buf_app hb (xs := [[iv (i : Int)]]) rfl (by intro c hc; obtain rfl := List.mem_singleton.1 hc; rfl) (by intro c hc y hy; obtain rfl := List.mem_singleton.1 hc; obtain rfl := List.mem_singleton.1 hy; rfl) (by simp; omega) fun w' τ1 hB hK hfam => ?_
      have hF1 : τ1 φ = some ⟨0, 1, (A ++ q :: C).map fun p => rowK p.1 p.2⟩ := by rw [hK φ hφφ (by rw [hF]; simp)]; exact hF
      refine ⟨⟨trivial, trivial⟩, ?_⟩
      simp only [ix τ1 hF1, RR]
      have hB' : Buf τ1 1 w' (innK (q.1 ++ [i])) := by simpa [innK] using hB
      have hle : (A ++ q :: C).length = cs.length := hbl
      rw [← hle, ← hA]
      refine (hle ▸ hN : N2 rowK 1 innK 1 σ τ (.own φ 0 0 (A ++ q :: C).length) (A ++ q :: C)).repl (x' := q.1 ++ [i]) rfl hB' (by omega) rfl hK hfam fun τ2 hN2 _ => ?_
      simp only [ibin_up hlt (by omega), RR, true_and]
      rw [hle] at hN2 ⊢
      refine hR' _ _ _ hlt (.refl _) ⟨_, rfl, hN2, ?_⟩
      have e1 := modify_at (A.map (·.1)) (C.map (·.1)) q.1 (fun l : List Nat => l ++ [i])
      rw [List.map_append, List.map_cons, ← e1, List.length_map, ← List.map_cons (f := (·.1)) (a := q), ← List.map_append, hbs]
      refine map_modify _ _ _ _ _ fun x hx => ?_
      rw [kidsTo_succ, hpp, hA]
      by_cases c : p = x
      · subst c; simp
      · have : ¬ (p : Int) = (x : Int) := by omega
        simp [c, this]
    · simp only [c0, ibin_up hlt (by omega), RR]
      refine hR' _ _ _ hlt (.refl _) ⟨bs, rfl, hN, ?_⟩
      rw [hbs]
      refine List.map_congr_left fun x _ => ?_
      rw [kidsTo_succ, if_neg (by omega), List.append_nil]
  · have g : ¬ (i : Int) < (cs.length : Int) := by omega
    obtain rfl : i = cs.length := by omega
    simp only [g, RR]
    have hz := hN.fz (fun _ _ => rfl) (fun x c hc => by obtain ⟨o, _, rfl⟩ := List.mem_map.1 hc; rfl) (fun _ _ _ => trivial) (fun x a b j hf => by
      match j with
      | 0 => exact hf
      | j + 1 => exact .same _)
    refine aret_freeze hN.sub hz ?_
    have e : (bs.map fun p => rowK p.1 (.ro (innK p.1))) = (allK cs).map encK := by
      have e2 : (bs.map fun p => rowK p.1 (.ro (innK p.1))) = (bs.map (·.1)).map encK := by simp [encK]
      rw [e2, hbs]; rfl
    rw [e]; exact h
def toBk (B : St) : List Blk := B.map fun p => ⟨p.1, p.2⟩
def fin0 (cs : List Cor) : St := mkC cs cs.length 0 0 true [(0, [])]
set_option maxHeartbeats 1000000 in
theorem c_impl_compiled {cs : List Cor} (hw : WfC cs) (hbd : ∀ i, (corAt cs i).data.length ≤ 1048576) (h1 : fits (fin0 cs) → ∀ v B τ, cont B = toBk (fin0 cs) → NewB σ τ v B → R (.ret (.tup [v, iv 0])) τ)
    (h2 : ¬ fits (fin0 cs) → ∀ τ, AH.Sub σ τ → R (.ret (.tup [nilS, iv 2])) τ) : acall TP fn_impl_compiled [roC cs] σ R := by
  refine s_impl_compiled_ok (tF := ty_RiE) catch_35 fun φa φb hφa hφb => ?_
  unfold s_impl_compiled
  have hs1 : AH.Sub σ ((σ.set φa ⟨0, 1, [[.val (.slice none 0 0)]]⟩).set φb ⟨0, 1, [[.val (.int .i64 0)]]⟩) := (AH.Sub.set (.refl σ) _ hφa).trans (.set (.refl _) _ hφb)
  have hne : φa ≠ φb := by rintro rfl; rw [AH.set_same] at hφb; cases hφb
  have hFa : ((σ.set φa ⟨0, 1, [[.val (.slice none 0 0)]]⟩).set φb ⟨0, 1, [[.val (.int .i64 0)]]⟩) φa = some ⟨0, 1, [[.val (.slice none 0 0)]]⟩ := by rw [AH.set_ne' hne, AH.set_same]
  have hFb : ((σ.set φa ⟨0, 1, [[.val (.slice none 0 0)]]⟩).set φb ⟨0, 1, [[.val (.int .i64 0)]]⟩) φb = some ⟨0, 1, [[.val (.int .i64 0)]]⟩ := AH.set_same ..
  generalize (σ.set φa ⟨0, 1, [[.val (.slice none 0 0)]]⟩).set φb ⟨0, 1, [[.val (.int .i64 0)]]⟩ = σ1 at *
  have hl := hw.len
  refine c_impl_kids (by omega) (fun i hi => ?_) ?_
  · rcases Nat.eq_zero_or_pos i with c | c
    · subst c; rw [hw.top]; omega
    · have := hw.par i c hi; omega
  have eb : bld [(.val (.slice none 0 0)), (.val (.slice none 0 0)), (.val (.slice none 0 0))] [(0, 1), (1, 1), (2, 1)] [(0, roC cs), (1, roKK cs)] = some (.agg [roC cs, roKK cs, nilS]) := rfl
  simp only [eb, RR]
  refine abox_new rfl fun φm hφm => ?_
  have hS0 : CSt (preI cs) σ1 (σ1.set φm ⟨0, 3, [[roC cs, roKK cs, nilS]]⟩) φm [] := ⟨⟨nilS, [], AH.set_same .., N2.nil (.set (.refl _) _ hφm), rfl, by simp [famL, l2F]⟩, hφm⟩
  have hpan : ¬ fits (fin0 cs) → PanTo (preI cs) σ1 φm (RD φa φb ty_RiE R) := fun c τ' B' S' => ⟨2, _, _, rfl, S'.sub _ _ hFa, S'.sub _ _ hFb, h2 c _ fun ψ F hF => by
    rw [AH.set_ne' (by rintro rfl; rw [AH.set_none] at hφb; rw [hφb.2] at hF; cases hF), AH.set_ne' (by rintro rfl; rw [hφa] at hF; cases hF)]
    exact S'.sub _ _ (hs1 _ _ hF)⟩
  refine c_impl_block rfl hS0 (by simp) (fun _ τ1 S1 => ?_) (fun c => absurd (by simp) c)
  simp only [RR]
  refine core_all hw cs.length 0 0 true [(0, [])] τ1 _ (by omega) (by omega) (by simp) S1 ⟨by simp, fun i hi => by simp at hi; subst hi; simp [lenS']⟩ (fun fD τ2 S2 => ?_) fun c => pan_onr (hpan c)
  change fits (fin0 cs) at fD
  change CSt (preI cs) σ1 τ2 φm (fin0 cs) at S2
  simp only [RR]
  refine ⟨_, σ1, S2.sub, S2.fz rfl, ?_⟩
  have e2 : ∀ τ, lod (.rop (preI cs ++ [roBk (toBk (fin0 cs))]) 2) τ = some (roBk (toBk (fin0 cs))) := fun _ => rfl
  simp only [e2, RR]
  have hAll : AllO (fun o => o.data.length ≤ 1048576) (fin0 cs) := mkC_all ⟨fun o _ h => by rw [h]; simp, fun k i => by simp [ocN], fun i => hbd i, fun o a h => h⟩ _ _ _ _ _ (fun p hp q hq => by simp at hp; subst hp; cases hq)
  refine c_impl_copiedCode (by have := fD.1; simp only [toBk, List.length_map]; omega) (fun b hb => ?_) fun v B τ3 hcB hN => ?_
  · obtain ⟨p, hp, rfl⟩ := List.mem_map.1 hb
    refine ⟨?_, fun o ho => hAll p hp o ho⟩
    obtain ⟨k, hk, rfl⟩ := List.mem_iff_getElem.1 hp
    have := fD.2 k hk
    unfold lenS' at this
    rw [show (fin0 cs).getD k (0, []) = (fin0 cs)[k] by simp [List.getD, hk]] at this
    show (fin0 cs)[k].2.length ≤ _
    omega
  simp only [RR]
  have hφaF : φa ∉ blksF v B := fun c => by have := hN.fr φa c; rw [hFa] at this; cases this
  have hφbF : φb ∉ blksF v B := fun c => by have := hN.fr φb c; rw [hFb] at this; cases this
  refine sto_fld (cs := [.val (.slice none 0 0)]) (hN.sub _ _ hFa) rfl (by decide) (acells_one hN.one) hN.one ?_
  refine sto_fld (cs := [.val (.int .i64 0)]) (by rw [AH.set_ne' (Ne.symm hne)]; exact hN.sub _ _ hFb) rfl (by decide) rfl rfl ?_
  have la : lod (.ptr φa 0 0 0) ((τ3.set φa ⟨0, 1, [[v]]⟩).set φb ⟨0, 1, [[.val (.int .i64 0)]]⟩) = some v := lod_at (i := 0) (by rw [AH.set_ne' hne]; exact AH.set_same ..) rfl rfl
  have lb : lod (.ptr φb 0 0 0) ((τ3.set φa ⟨0, 1, [[v]]⟩).set φb ⟨0, 1, [[.val (.int .i64 0)]]⟩) = some (.val (.int .i64 0)) := lod_at (i := 0) (AH.set_same ..) rfl rfl
  show og (lod (.ptr φa 0 0 0) ((τ3.set φa ⟨0, 1, [[v]]⟩).set φb ⟨0, 1, [[.val (.int .i64 0)]]⟩)) _
  rw [la]
  show og (lod (.ptr φb 0 0 0) ((τ3.set φa ⟨0, 1, [[v]]⟩).set φb ⟨0, 1, [[.val (.int .i64 0)]]⟩)) _
  rw [lb]
  refine ret_here (h1 fD v B _ hcB ⟨hN.own.keep fun ψ hψ => ?_, hN.nd, fun ψ hψ => hs1.none (hN.fr ψ hψ), fun ψ F hF => ?_⟩)
  · rw [AH.set_ne' (by rintro rfl; exact hφbF hψ), AH.set_ne' (by rintro rfl; exact hφaF hψ)]
  · rw [AH.set_ne' (by rintro rfl; rw [AH.set_none] at hφb; rw [hφb.2] at hF; cases hF), AH.set_ne' (by rintro rfl; rw [hφa] at hF; cases hF)]
    exact hN.sub _ _ (hs1 _ _ hF)
end Go.Proofs.YtmmhaiidcfgbbaaGreatDoor.E
