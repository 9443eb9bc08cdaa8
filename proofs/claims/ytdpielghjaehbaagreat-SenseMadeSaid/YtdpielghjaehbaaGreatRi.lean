/- regletref06: a rule's place; from some marks on. -/
import Derived.Test.YtdpielghjaehbaaGreatRf
set_option linter.unusedSectionVars false
set_option linter.unusedSimpArgs false
set_option linter.unusedVariables false
namespace Go.Proofs.YtdpielghjaehbaaGreat.Ev
open Go.RowKit

variable {mem : Nat → Nat → Option Value} {B0 : Nat}

theorem findIx_drop {name : List UInt8} {g : List Ru} {k : Nat} {r : Ru} (h : g[k]? = some r) : findIx name (g.drop k) k = if sameBytes r.name name then (k : Int) else findIx name (g.drop (k + 1)) (k + 1) := by
  obtain ⟨hk, rfl⟩ := List.getElem?_eq_some_iff.1 h
  rw [List.drop_eq_getElem_cons hk]; rfl

set_option maxRecDepth 20000 in
theorem find5_ok {w0 : World} {Bx : Nat} {v0 : Value} {g : List Ru} {d : Seg} {n : Nat} {name : List UInt8} (hv : RulesAt w0 Bx v0 g) (hg : g.length < 100000) :
    CallsA Tryz.prog (lenv (memOf w0)) B0 27 [.c (lift v0), .c (.str name)] d n fun v d' n' => v = .c (.int .i64 (findIx name g 0)) ∧ d' = d ∧ n' = n := by
  refine callsA_code lenv_ok none1_ok Tryz.func27 rfl (by decide) rfl rfl (by simp) fun hl ha Q hQ => ?_
  rcases hv with ⟨rfl, rfl⟩ | ⟨b, cap, _, rfl, hrs⟩
  · simp +decide -implicitDefEqProofs only [stp,code_seq,evWanted,evOp,val,absV,evBin,evConv,evBuiltin,cmpInt,vals,partsOf,isAggD,cellsOf,isAggV,Nat.reduceEqDiff,Nat.reduceLT,Nat.reduceBEq,Nat.reduceBNe,reduceCtorEq,if_true,if_false,reduceIte,forall_const,IntKind.bits,IntKind.signed,eq_self_iff_true,finalOf,resultOf,cellsGood,AC.isCell,senv_mem,lift, Tryz.f27, lty3,lty4,lty5,lty9,lty22,lty33,lty25,lty34,lty23,lty36,lty40,lty98,lty96,lty93,lty95,lty54,lty38,lty31, lenv_mem, none1]
    refine code_loop lenv_ok none1_ok (fun q s d' n' => d' = d ∧ n' = n ∧ s.nt = 20 ∧ s.get 0 = .c .sl0 ∧ s.get 5 = .c (.int .i64 0)) 0 ?_ ?_
    · refine ⟨rfl, rfl, rfl, ?_⟩
      simp +decide -implicitDefEqProofs only [stp,code_seq,evWanted,evOp,val,absV,evBin,evConv,evBuiltin,cmpInt,vals,partsOf,isAggD,cellsOf,isAggV,Nat.reduceEqDiff,Nat.reduceLT,Nat.reduceBEq,Nat.reduceBNe,reduceCtorEq,if_true,if_false,reduceIte,forall_const,IntKind.bits,IntKind.signed,eq_self_iff_true,finalOf,resultOf,cellsGood,AC.isCell,senv_mem,lift]
    · rintro q s _ _ ⟨rfl, rfl, hnt, g0, g5⟩ hl1 hs1 Q' hQ1 hQ2
      have hi : ¬ (0 : Int) < 0 := by omega
      simp +decide -implicitDefEqProofs only [stp,code_seq,evWanted,evOp,val,absV,evBin,evConv,evBuiltin,cmpInt,vals,partsOf,isAggD,cellsOf,isAggV,Nat.reduceEqDiff,Nat.reduceLT,Nat.reduceBEq,Nat.reduceBNe,reduceCtorEq,if_true,if_false,reduceIte,forall_const,IntKind.bits,IntKind.signed,eq_self_iff_true,finalOf,resultOf,cellsGood,AC.isCell,senv_mem,lift, lty3,lty4,lty5,lty9,lty22,lty33,lty25,lty34,lty23,lty36,lty40,lty98,lty96,lty93,lty95,lty54,lty38,lty31, hnt, g0, g5, hi]
      refine hQ2 _ _ _ _ (by simp) ?_
      simp +decide -implicitDefEqProofs only [stp,code_seq,evWanted,evOp,val,absV,evBin,evConv,evBuiltin,cmpInt,vals,partsOf,isAggD,cellsOf,isAggV,Nat.reduceEqDiff,Nat.reduceLT,Nat.reduceBEq,Nat.reduceBNe,reduceCtorEq,if_true,if_false,reduceIte,forall_const,IntKind.bits,IntKind.signed,eq_self_iff_true,finalOf,resultOf,cellsGood,AC.isCell,senv_mem,lift, Tryz.f27, lty3,lty4,lty5,lty9,lty22,lty33,lty25,lty34,lty23,lty36,lty40,lty98,lty96,lty93,lty95,lty54,lty38,lty31, hnt]
      refine hQ _ _ _ _ (.c (.int .i64 (-1))) (by simp) ?_ ⟨rfl, rfl, rfl⟩
      simp +decide -implicitDefEqProofs only [stp,code_seq,evWanted,evOp,val,absV,evBin,evConv,evBuiltin,cmpInt,vals,partsOf,isAggD,cellsOf,isAggV,Nat.reduceEqDiff,Nat.reduceLT,Nat.reduceBEq,Nat.reduceBNe,reduceCtorEq,if_true,if_false,reduceIte,forall_const,IntKind.bits,IntKind.signed,eq_self_iff_true,finalOf,resultOf,cellsGood,AC.isCell,senv_mem,lift, Tryz.f27, hnt]
  · simp +decide -implicitDefEqProofs only [stp,code_seq,evWanted,evOp,val,absV,evBin,evConv,evBuiltin,cmpInt,vals,partsOf,isAggD,cellsOf,isAggV,Nat.reduceEqDiff,Nat.reduceLT,Nat.reduceBEq,Nat.reduceBNe,reduceCtorEq,if_true,if_false,reduceIte,forall_const,IntKind.bits,IntKind.signed,eq_self_iff_true,finalOf,resultOf,cellsGood,AC.isCell,senv_mem,lift, Tryz.f27, lty3,lty4,lty5,lty9,lty22,lty33,lty25,lty34,lty23,lty36,lty40,lty98,lty96,lty93,lty95,lty54,lty38,lty31, lenv_mem, none1]
    refine code_loop lenv_ok none1_ok (fun q s d' n' => s.nt = 20 ∧ d' = d ∧ n' = n ∧ ∃ k : Nat, k + q = g.length ∧ s.get 0 = .c (.raw (.slice (some ⟨b, 0, none⟩) g.length cap)) ∧ s.get 1 = .c (.str name) ∧ s.get 5 = .c (.int .i64 k) ∧ findIx name g 0 = findIx name (g.drop k) k) g.length ?_ ?_
    · refine ⟨rfl, rfl, rfl, 0, by omega, ?_⟩
      simp +decide -implicitDefEqProofs only [stp,code_seq,evWanted,evOp,val,absV,evBin,evConv,evBuiltin,cmpInt,vals,partsOf,isAggD,cellsOf,isAggV,Nat.reduceEqDiff,Nat.reduceLT,Nat.reduceBEq,Nat.reduceBNe,reduceCtorEq,if_true,if_false,reduceIte,forall_const,IntKind.bits,IntKind.signed,eq_self_iff_true,finalOf,resultOf,cellsGood,AC.isCell,senv_mem,lift]
      exact ⟨rfl, rfl⟩
    · rintro q s _ _ ⟨hnt, rfl, rfl, k, hkq, g0, g1, g5, hf⟩ hl1 hs1 Q' hQ1 hQ2
      by_cases hlt : (k : Int) < g.length
      · have hlt' : k < g.length := by omega
        have hgk : g[k]? = some g[k] := List.getElem?_eq_getElem hlt'
        have hk0 : (0 : Int) ≤ k := by omega
        obtain ⟨cs, c1, c2, c3⟩ := RuAt.get g b 0 k g[k] hrs hgk
        rw [Nat.zero_add] at c1
        have hm : memOf w0 b (k * 7) = some (.string ⟨g[k].name.toArray⟩) := c1
        have hfd := findIx_drop (name := name) hgk
        simp +decide -implicitDefEqProofs only [stp,code_seq,evWanted,evOp,val,absV,evBin,evConv,evBuiltin,cmpInt,vals,partsOf,isAggD,cellsOf,isAggV,Nat.reduceEqDiff,Nat.reduceLT,Nat.reduceBEq,Nat.reduceBNe,reduceCtorEq,if_true,if_false,reduceIte,forall_const,IntKind.bits,IntKind.signed,eq_self_iff_true,finalOf,resultOf,cellsGood,AC.isCell,senv_mem,lift, lty3,lty4,lty5,lty9,lty22,lty33,lty25,lty34,lty23,lty36,lty40,lty98,lty96,lty93,lty95,lty54,lty38,lty31, lenv_mem, none1, hnt, g0, g1, g5, hlt, hk0, Int.toNat_natCast, hm, Nat.add_zero, Nat.zero_add]
        cases hsb : sameBytes g[k].name name with
        | true =>
          rw [hsb, if_pos rfl] at hfd
          simp +decide -implicitDefEqProofs only [stp,code_seq,evWanted,evOp,val,absV,evBin,evConv,evBuiltin,cmpInt,vals,partsOf,isAggD,cellsOf,isAggV,Nat.reduceEqDiff,Nat.reduceLT,Nat.reduceBEq,Nat.reduceBNe,reduceCtorEq,if_true,if_false,reduceIte,forall_const,IntKind.bits,IntKind.signed,eq_self_iff_true,finalOf,resultOf,cellsGood,AC.isCell,senv_mem,lift, lty3,lty4,lty5,lty9,lty22,lty33,lty25,lty34,lty23,lty36,lty40,lty98,lty96,lty93,lty95,lty54,lty38,lty31, hnt, g5]
          refine hQ2 _ _ _ _ (by simp) ?_
          simp +decide -implicitDefEqProofs only [stp,code_seq,evWanted,evOp,val,absV,evBin,evConv,evBuiltin,cmpInt,vals,partsOf,isAggD,cellsOf,isAggV,Nat.reduceEqDiff,Nat.reduceLT,Nat.reduceBEq,Nat.reduceBNe,reduceCtorEq,if_true,if_false,reduceIte,forall_const,IntKind.bits,IntKind.signed,eq_self_iff_true,finalOf,resultOf,cellsGood,AC.isCell,senv_mem,lift]
          refine hQ _ _ _ _ (.c (.int .i64 (findIx name g 0))) (by simp) ?_ ⟨rfl, rfl, rfl⟩
          simp +decide -implicitDefEqProofs only [stp,code_seq,evWanted,evOp,val,absV,evBin,evConv,evBuiltin,cmpInt,vals,partsOf,isAggD,cellsOf,isAggV,Nat.reduceEqDiff,Nat.reduceLT,Nat.reduceBEq,Nat.reduceBNe,reduceCtorEq,if_true,if_false,reduceIte,forall_const,IntKind.bits,IntKind.signed,eq_self_iff_true,finalOf,resultOf,cellsGood,AC.isCell,senv_mem,lift, Tryz.f27, hnt]
          rw [hf, hfd]
        | false =>
          rw [hsb, if_neg (by simp)] at hfd
          simp +decide -implicitDefEqProofs only [stp,code_seq,evWanted,evOp,val,absV,evBin,evConv,evBuiltin,cmpInt,vals,partsOf,isAggD,cellsOf,isAggV,Nat.reduceEqDiff,Nat.reduceLT,Nat.reduceBEq,Nat.reduceBNe,reduceCtorEq,if_true,if_false,reduceIte,forall_const,IntKind.bits,IntKind.signed,eq_self_iff_true,finalOf,resultOf,cellsGood,AC.isCell,senv_mem,lift, lty3,lty4,lty5,lty9,lty22,lty33,lty25,lty34,lty23,lty36,lty40,lty98,lty96,lty93,lty95,lty54,lty38,lty31, hnt, g5]
          refine hQ1 (q - 1) _ _ _ (by omega) ⟨by simp only [nt_put, hnt], rfl, rfl, k + 1, by omega, ?_⟩
          simp +decide -implicitDefEqProofs only [stp,code_seq,evWanted,evOp,val,absV,evBin,evConv,evBuiltin,cmpInt,vals,partsOf,isAggD,cellsOf,isAggV,Nat.reduceEqDiff,Nat.reduceLT,Nat.reduceBEq,Nat.reduceBNe,reduceCtorEq,if_true,if_false,reduceIte,forall_const,IntKind.bits,IntKind.signed,eq_self_iff_true,finalOf,resultOf,cellsGood,AC.isCell,senv_mem,lift, hnt, g0, g1]
          rw [wrap_succ (by omega)]
          exact ⟨rfl, by rw [hf, hfd]⟩
      · have hk : k = g.length := by omega
        have hf : findIx name g 0 = -1 := by rw [hf, hk, List.drop_length]; rfl
        simp +decide -implicitDefEqProofs only [stp,code_seq,evWanted,evOp,val,absV,evBin,evConv,evBuiltin,cmpInt,vals,partsOf,isAggD,cellsOf,isAggV,Nat.reduceEqDiff,Nat.reduceLT,Nat.reduceBEq,Nat.reduceBNe,reduceCtorEq,if_true,if_false,reduceIte,forall_const,IntKind.bits,IntKind.signed,eq_self_iff_true,finalOf,resultOf,cellsGood,AC.isCell,senv_mem,lift, lty3,lty4,lty5,lty9,lty22,lty33,lty25,lty34,lty23,lty36,lty40,lty98,lty96,lty93,lty95,lty54,lty38,lty31, hnt, g0, g1, g5, hlt]
        refine hQ2 _ _ _ _ (by simp) ?_
        simp +decide -implicitDefEqProofs only [stp,code_seq,evWanted,evOp,val,absV,evBin,evConv,evBuiltin,cmpInt,vals,partsOf,isAggD,cellsOf,isAggV,Nat.reduceEqDiff,Nat.reduceLT,Nat.reduceBEq,Nat.reduceBNe,reduceCtorEq,if_true,if_false,reduceIte,forall_const,IntKind.bits,IntKind.signed,eq_self_iff_true,finalOf,resultOf,cellsGood,AC.isCell,senv_mem,lift]
        refine hQ _ _ _ _ (.c (.int .i64 (findIx name g 0))) (by simp) ?_ ⟨rfl, rfl, rfl⟩
        simp +decide -implicitDefEqProofs only [stp,code_seq,evWanted,evOp,val,absV,evBin,evConv,evBuiltin,cmpInt,vals,partsOf,isAggD,cellsOf,isAggV,Nat.reduceEqDiff,Nat.reduceLT,Nat.reduceBEq,Nat.reduceBNe,reduceCtorEq,if_true,if_false,reduceIte,forall_const,IntKind.bits,IntKind.signed,eq_self_iff_true,finalOf,resultOf,cellsGood,AC.isCell,senv_mem,lift, Tryz.f27, hnt]
        rw [hf]

/-- What the program holds of each rule and place. -/
structure Tab (d : Seg) (T : AC) (G L : Nat) (row : Nat → Nat) (mk : Nat → Nat → Nat) (M : Nat → Nat → List Bool) : Prop where
  top : (G = 0 ∧ T = .sl0) ∨ ∃ t cs, T = .sl t G ∧ get [d] t = some (.cells 96 cs) ∧ (∀ i, i < G → cs[i]? = some (.sl (row i) (L + 1))) ∧ cs.length = G
  rows : ∀ i, i < G → ∃ cs, get [d] (row i) = some (.cells 98 cs) ∧ ∀ a, a ≤ L → cs[a]? = some (.sl (mk i a) (L + 1))
  mks : ∀ i a, i < G → a ≤ L → get [d] (mk i a) = some (.cells 4 (mksC (M i a))) ∧ (M i a).length = L + 1
  inj : ∀ i a i' a', i < G → a ≤ L → i' < G → a' ≤ L → mk i a = mk i' a' → i = i' ∧ a = a'

theorem SR.keep {d d' : Seg} {n ix : Nat} {G T : AC} {s : List UInt8} {utf : Bool} (h : SR d ix G s utf T) (hl : Live d n) (hk : Keeps d n d') : SR d' ix G s utf T := (hk ix (hl ix _ h).1).trans h

theorem Tab.keep {d d' : Seg} {n : Nat} {T : AC} {G L : Nat} {row : Nat → Nat} {mk : Nat → Nat → Nat} {M : Nat → Nat → List Bool} (h : Tab d T G L row mk M) (hl : Live d n) (hk : Keeps d n d') : Tab d' T G L row mk M where
  top := by
    rcases h.top with h | ⟨t, cs, h1, h2, h3⟩
    · exact .inl h
    · exact .inr ⟨t, cs, h1, (hk t (hl t _ h2).1).trans h2, h3⟩
  rows i hi := by
    obtain ⟨cs, h1, h2⟩ := h.rows i hi
    exact ⟨cs, (hk _ (hl _ _ h1).1).trans h1, h2⟩
  mks i a hi ha := by
    obtain ⟨h1, h2⟩ := h.mks i a hi ha
    exact ⟨(hk _ (hl _ _ h1).1).trans h1, h2⟩
  inj := h.inj

/-- What is known, by names. -/
def kn (g : List Ru) (M : Nat → Nat → List Bool) : Kn := fun nm a x => ∃ i : Nat, findIx nm g 0 = (i : Int) ∧ i < g.length ∧ (M i a)[x]? = some true

/-- The contract of ends, for one expression. -/
def EndsR (w0 : World) (Bx : Nat) (v0 : Value) (g : List Ru) (s : List UInt8) (utf : Bool) (NM : List (List UInt8)) (e : Ex) : Prop :=
  ∀ (B0 : Nat) (cs : List Value) (ix : Nat) (d : Seg) (n : Nat) (T : AC) (row : Nat → Nat) (mk : Nat → Nat → Nat) (M : Nat → Nat → List Bool) (a : Nat), ExAt w0 Bx e cs → wfEx NM e = true → SR d ix (lift v0) s utf T → Tab d T g.length s.length row mk M → a ≤ s.length →
    CallsA Tryz.prog (lenv (memOf w0)) B0 41 [.c (.ptr ix 0), .agg (cs.map lift), .c (.int .i64 a)] d n fun v d' n' => Made n s.length (den s utf (kn g M) e a) d v d'

theorem join_okL {d : Seg} {n ja jb m : Nat} {A Bs : List Bool} (ha : get [d] ja = some (.cells 4 (mksC A))) (hb : get [d] jb = some (.cells 4 (mksC Bs))) (hne : ja ≠ jb) (hA : A.length = m) (hB : Bs.length = m) (hsz : m ≤ 100000) :
    CallsA Tryz.prog (lenv mem) B0 40 [.c (.sl ja m), .c (.sl jb m)] d n fun v d' n' => v = .c (.bool (newB A Bs)) ∧ n' = n ∧ (∃ δ, d' = δ ++ d ∧ ∀ p ∈ δ, p.1 = ja) ∧ get [d'] ja = some (.cells 4 (mksC (orL A Bs))) := by
  subst hA
  exact join_ok ha hb hne hB.symm hsz

theorem is_or {L : Nat} {A B : List Bool} {S T : Nat → Prop} (hA : Is L A S) (hB : Is L B T) : Is L (orL A B) (fun x => S x ∨ T x) := by
  refine ⟨by rw [orL_len (hA.1.trans hB.1.symm), hA.1], fun x => ?_⟩
  show _ ↔ (S x ∨ T x)
  rw [orL_get, ← hA.2, ← hB.2]
  by_cases hx : x < L + 1
  · rw [List.getElem?_eq_getElem (show x < A.length by rw [hA.1]; exact hx), List.getElem?_eq_getElem (show x < B.length by rw [hB.1]; exact hx)]
    simp
  · rw [List.getElem?_eq_none (show A.length ≤ x by rw [hA.1]; omega), List.getElem?_eq_none (show B.length ≤ x by rw [hB.1]; omega)]
    simp

theorem Is.le {L x : Nat} {A : List Bool} {S : Nat → Prop} (hA : Is L A S) (h : S x) : x ≤ L := by
  have := (List.getElem?_eq_some_iff.1 ((hA.2 x).2 h)).1
  rw [hA.1] at this
  omega

theorem ids_adds {n j : Nat} {d d' : Seg} (h : ∃ δ, d' = δ ++ d ∧ ∀ p ∈ δ, p.1 = j) (hj : n ≤ j) : Adds n d d' := by
  obtain ⟨δ, rfl, h1⟩ := h
  exact ⟨δ, rfl, fun p hp => by rw [h1 p hp]; exact hj⟩

theorem ids_other {i j : Nat} {d d' : Seg} (h : ∃ δ, d' = δ ++ d ∧ ∀ p ∈ δ, p.1 = j) (hij : i ≠ j) : get [d'] i = get [d] i := by
  obtain ⟨δ, rfl, h1⟩ := h
  rw [get_append]
  have : look δ i = none := by
    induction δ with
    | nil => rfl
    | cons p δ ih =>
      obtain ⟨a, b⟩ := p
      have ha : a = j := h1 (a, b) (List.mem_cons_self ..)
      have : (a == i) = false := by simp; omega
      simp only [look, this]
      exact ih fun q hq => h1 q (List.mem_cons_of_mem _ hq)
  rw [this]

set_option maxRecDepth 20000 in
set_option maxHeartbeats 4000000 in
theorem fromR_ok {w0 : World} {Bx : Nat} {v0 : Value} {g : List Ru} {s : List UInt8} {utf : Bool} {NM : List (List UInt8)} {e : Ex} (he : EndsR w0 Bx v0 g s utf NM e) {cs : List Value} {ix j : Nat} {d : Seg} {n : Nat} {T : AC} {row : Nat → Nat} {mk : Nat → Nat → Nat} {M : Nat → Nat → List Bool} {bs : List Bool} {S : Nat → Prop}
    (hcs : ExAt w0 Bx e cs) (hwf : wfEx NM e = true) (hx1 : SR d ix (lift v0) s utf T) (ht : Tab d T g.length s.length row mk M) (hj : get [d] j = some (.cells 4 (mksC bs))) (hS : Is s.length bs S) (hs0 : s.length < 1000) :
    CallsA Tryz.prog (lenv (memOf w0)) B0 68 [.c (.ptr ix 0), .agg (cs.map lift), .c (.sl j (s.length + 1))] d n fun v d' n' => Made n s.length (img (den s utf (kn g M) e) S) d v d' := by
  refine callsA_code lenv_ok none1_ok Tryz.func68 rfl (by decide) rfl rfl (by simp) fun hl _ Q hQ => ?_
  obtain ⟨h6, hg⟩ := exAt_six hcs
  have hee := fun d n a (h1 : SR d ix (lift v0) s utf T) (h2 : Tab d T g.length s.length row mk M) (ha : a ≤ s.length) => he B0 cs ix d n T row mk M a hcs hwf h1 h2 ha
  have hL : (cs.map lift).length = 6 := by simp [h6]
  generalize cs.map lift = L at hg hee hL
  have hT : List.take 6 L = L := List.take_of_length_le (by omega)
  have hg' : L.all AC.isCell = true := hg
  have hixn := (hl ix _ hx1).1
  have hjn := (hl j _ hj).1
  have hx2 := hx1
  unfold SR at hx2
  have e1 : ¬ n = ix := by omega
  have e2 : ¬ n + 1 = ix := by omega
  have e3 : ¬ n + 1 = n := by omega
  have hw1 : IntKind.i64.wrap ((s.length : Int) + 1) = ((s.length + 1 : Nat) : Int) := wrap_succ (by omega)
  have hp0 : (0 : Int) ≤ ((s.length + 1 : Nat) : Int) := by omega
  have hp1 : ((s.length + 1 : Nat) : Int) ≤ 100000 := by omega
  simp +decide -implicitDefEqProofs only [stp,code_seq,evWanted,evOp,val,absV,evBin,evConv,evBuiltin,cmpInt,vals,partsOf,isAggD,cellsOf,isAggV,Nat.reduceEqDiff,Nat.reduceLT,Nat.reduceBEq,Nat.reduceBNe,reduceCtorEq,if_true,if_false,reduceIte,forall_const,IntKind.bits,IntKind.signed,eq_self_iff_true,finalOf,resultOf,cellsGood,AC.isCell,senv_mem,lift, Tryz.f68, lty3,lty4,lty5,lty9,lty22,lty33,lty25,lty34,lty23,lty36,lty40,lty98,lty96,lty93,lty95,lty54,lty38,lty31, lenv_mem, none1, hL, hg', hx2, e1, e2, e3, hw1, hp0, hp1, Int.toNat_natCast, rep_mks]
  refine code_loop lenv_ok none1_ok (fun q sl d' n' => sl.nt = 33 ∧ n + 2 ≤ n' ∧ Adds n d d' ∧ get [d'] n = some (.cells 36 L) ∧ ∃ (i : Nat) (bs' : List Bool), i + q = s.length + 1 ∧ sl.get 0 = .c (.ptr ix 0) ∧ sl.get 2 = .c (.sl j (s.length + 1)) ∧ sl.get 4 = .c (.ptr n 0) ∧ sl.get 7 = .c (.sl (n + 1) (s.length + 1)) ∧
    sl.get 8 = .c (.int .i64 i) ∧ get [d'] (n + 1) = some (.cells 4 (mksC bs')) ∧ Is s.length bs' (img (den s utf (kn g M) e) fun y => y < i ∧ S y)) (s.length + 1) ?_ ?_
  · refine ⟨by simp only [nt_put], Nat.le_refl _, ((Adds.refl n d).cons (Nat.le_refl _)).cons (by omega), by rw [get_cons, if_neg e3, get_cons, if_pos rfl], 0, List.replicate (s.length + 1) false, by omega, ?_⟩
    simp +decide -implicitDefEqProofs only [stp,code_seq,evWanted,evOp,val,absV,evBin,evConv,evBuiltin,cmpInt,vals,partsOf,isAggD,cellsOf,isAggV,Nat.reduceEqDiff,Nat.reduceLT,Nat.reduceBEq,Nat.reduceBNe,reduceCtorEq,if_true,if_false,reduceIte,forall_const,IntKind.bits,IntKind.signed,eq_self_iff_true,finalOf,resultOf,cellsGood,AC.isCell,senv_mem,lift]
    exact ⟨rfl, is_rep fun x ⟨y, hy, _⟩ => by omega⟩
  rintro q sl d1 n1 ⟨hnt, hn1, hA1, gn, i, bs', hiq, g0, g2, g4, g7, g8, hm, hI⟩ hl1 hs1 Q' hQ1 hQ2
  have hj1 := (hA1.keeps j hjn).trans hj
  by_cases h1 : (i : Int) < ((s.length + 1 : Nat) : Int)
  · have hil : i < bs.length := by rw [hS.1]; omega
    obtain ⟨b, hb⟩ : ∃ b, bs[i]? = some b := ⟨_, List.getElem?_eq_getElem hil⟩
    have hbc := mksC_get hb
    have hi0 : (0 : Int) ≤ (i : Int) := by omega
    have hSi : S i ↔ b = true := by rw [← hS.2, hb]; simp
    cases b with
    | false =>
      simp +decide -implicitDefEqProofs only [stp,code_seq,evWanted,evOp,val,absV,evBin,evConv,evBuiltin,cmpInt,vals,partsOf,isAggD,cellsOf,isAggV,Nat.reduceEqDiff,Nat.reduceLT,Nat.reduceBEq,Nat.reduceBNe,reduceCtorEq,if_true,if_false,reduceIte,forall_const,IntKind.bits,IntKind.signed,eq_self_iff_true,finalOf,resultOf,cellsGood,AC.isCell,senv_mem,lift, lty3,lty4,lty5,lty9,lty22,lty33,lty25,lty34,lty23,lty36,lty40,lty98,lty96,lty93,lty95,lty54,lty38,lty31, lenv_mem, none1, hnt, g0, g2, g4, g7, g8, h1, hi0, hj1, Int.toNat_natCast, hbc]
      refine hQ1 (q - 1) _ _ _ (by omega) ⟨by simp only [nt_put, hnt], hn1, hA1, gn, i + 1, bs', by omega, ?_⟩
      simp +decide -implicitDefEqProofs only [stp,code_seq,evWanted,evOp,val,absV,evBin,evConv,evBuiltin,cmpInt,vals,partsOf,isAggD,cellsOf,isAggV,Nat.reduceEqDiff,Nat.reduceLT,Nat.reduceBEq,Nat.reduceBNe,reduceCtorEq,if_true,if_false,reduceIte,forall_const,IntKind.bits,IntKind.signed,eq_self_iff_true,finalOf,resultOf,cellsGood,AC.isCell,senv_mem,lift, hnt, g0, g2, g4, g7]
      rw [wrap_succ (by omega)]
      refine ⟨rfl, hm, hI.congr fun x => ⟨fun ⟨y, ⟨h1, h2⟩, h3⟩ => ⟨y, ⟨by omega, h2⟩, h3⟩, fun ⟨y, ⟨h1, h2⟩, h3⟩ => ⟨y, ⟨?_, h2⟩, h3⟩⟩⟩
      rcases Nat.lt_or_ge y i with h | h
      · exact h
      · rw [show y = i by omega] at h2
        cases hSi.1 h2
    | true =>
      simp +decide -implicitDefEqProofs only [stp,code_seq,evWanted,evOp,val,absV,evBin,evConv,evBuiltin,cmpInt,vals,partsOf,isAggD,cellsOf,isAggV,Nat.reduceEqDiff,Nat.reduceLT,Nat.reduceBEq,Nat.reduceBNe,reduceCtorEq,if_true,if_false,reduceIte,forall_const,IntKind.bits,IntKind.signed,eq_self_iff_true,finalOf,resultOf,cellsGood,AC.isCell,senv_mem,lift, lty3,lty4,lty5,lty9,lty22,lty33,lty25,lty34,lty23,lty36,lty40,lty98,lty96,lty93,lty95,lty54,lty38,lty31, lenv_mem, none1, hnt, g0, g2, g4, g7, g8, h1, hi0, hj1, Int.toNat_natCast, hbc, gn, hT, hL, Nat.le_refl, List.drop_zero]
      refine call_mono (hee d1 n1 i (hx1.keep hl hA1.keeps) (ht.keep hl hA1.keeps) (by omega)) fun v d2 n2 hR hl2 hle2 hok2 => ?_
      obtain ⟨j2, bs2, hj2, rfl, hA2, hm2, hI2⟩ := hR
      have hm1 := (hA2.keeps (n + 1) (by omega)).trans hm
      simp +decide -implicitDefEqProofs only [stp,code_seq,evWanted,evOp,val,absV,evBin,evConv,evBuiltin,cmpInt,vals,partsOf,isAggD,cellsOf,isAggV,Nat.reduceEqDiff,Nat.reduceLT,Nat.reduceBEq,Nat.reduceBNe,reduceCtorEq,if_true,if_false,reduceIte,forall_const,IntKind.bits,IntKind.signed,eq_self_iff_true,finalOf,resultOf,cellsGood,AC.isCell,senv_mem,lift, lty3,lty4,lty5,lty9,lty22,lty33,lty25,lty34,lty23,lty36,lty40,lty98,lty96,lty93,lty95,lty54,lty38,lty31, lenv_mem, none1, hnt, g0, g2, g4, g7, g8]
      refine call_mono (join_okL hm1 hm2 (by omega) hI.1 hI2.1 (by omega)) fun v d3 n3 hR hl3 hle3 hok3 => ?_
      obtain ⟨rfl, rfl, hids, hm3⟩ := hR
      simp +decide -implicitDefEqProofs only [stp,code_seq,evWanted,evOp,val,absV,evBin,evConv,evBuiltin,cmpInt,vals,partsOf,isAggD,cellsOf,isAggV,Nat.reduceEqDiff,Nat.reduceLT,Nat.reduceBEq,Nat.reduceBNe,reduceCtorEq,if_true,if_false,reduceIte,forall_const,IntKind.bits,IntKind.signed,eq_self_iff_true,finalOf,resultOf,cellsGood,AC.isCell,senv_mem,lift, lty3,lty4,lty5,lty9,lty22,lty33,lty25,lty34,lty23,lty36,lty40,lty98,lty96,lty93,lty95,lty54,lty38,lty31, lenv_mem, none1, hnt, g0, g2, g4, g7, g8]
      refine hQ1 (q - 1) _ _ _ (by omega) ⟨by simp only [nt_put, hnt], by omega, (hA1.trans hA2 (by omega)).trans (ids_adds hids (show n ≤ n + 1 by omega)) (Nat.le_refl _), ?_, i + 1, orL bs' bs2, by omega, ?_⟩
      · rw [ids_other hids (by omega), hA2.keeps n (by omega)]; exact gn
      simp +decide -implicitDefEqProofs only [stp,code_seq,evWanted,evOp,val,absV,evBin,evConv,evBuiltin,cmpInt,vals,partsOf,isAggD,cellsOf,isAggV,Nat.reduceEqDiff,Nat.reduceLT,Nat.reduceBEq,Nat.reduceBNe,reduceCtorEq,if_true,if_false,reduceIte,forall_const,IntKind.bits,IntKind.signed,eq_self_iff_true,finalOf,resultOf,cellsGood,AC.isCell,senv_mem,lift, hnt, g0, g2, g4, g7]
      rw [wrap_succ (by omega)]
      refine ⟨rfl, hm3, (is_or hI hI2).congr fun x => ?_⟩
      constructor
      · rintro (⟨y, ⟨h1, h2⟩, h3⟩ | h)
        · exact ⟨y, ⟨by omega, h2⟩, h3⟩
        · exact ⟨i, ⟨by omega, hSi.2 rfl⟩, h⟩
      · rintro ⟨y, ⟨h1, h2⟩, h3⟩
        by_cases hy : y = i
        · subst hy; exact .inr h3
        · exact .inl ⟨y, ⟨by omega, h2⟩, h3⟩
  · simp +decide -implicitDefEqProofs only [stp,code_seq,evWanted,evOp,val,absV,evBin,evConv,evBuiltin,cmpInt,vals,partsOf,isAggD,cellsOf,isAggV,Nat.reduceEqDiff,Nat.reduceLT,Nat.reduceBEq,Nat.reduceBNe,reduceCtorEq,if_true,if_false,reduceIte,forall_const,IntKind.bits,IntKind.signed,eq_self_iff_true,finalOf,resultOf,cellsGood,AC.isCell,senv_mem,lift, lty3,lty4,lty5,lty9,lty22,lty33,lty25,lty34,lty23,lty36,lty40,lty98,lty96,lty93,lty95,lty54,lty38,lty31, lenv_mem, none1, hnt, g0, g2, g4, g7, g8, h1]
    refine hQ2 _ _ _ _ (by simp) ?_
    simp +decide -implicitDefEqProofs only [stp,code_seq,evWanted,evOp,val,absV,evBin,evConv,evBuiltin,cmpInt,vals,partsOf,isAggD,cellsOf,isAggV,Nat.reduceEqDiff,Nat.reduceLT,Nat.reduceBEq,Nat.reduceBNe,reduceCtorEq,if_true,if_false,reduceIte,forall_const,IntKind.bits,IntKind.signed,eq_self_iff_true,finalOf,resultOf,cellsGood,AC.isCell,senv_mem,lift, lty3,lty4,lty5,lty9,lty22,lty33,lty25,lty34,lty23,lty36,lty40,lty98,lty96,lty93,lty95,lty54,lty38,lty31, lenv_mem, none1, hnt, g0, g2, g4, g7, g8]
    refine hQ _ _ _ _ (.c (.sl (n + 1) (s.length + 1))) (by simp) ?_ ⟨n + 1, bs', Nat.le_succ n, rfl, hA1, hm, hI.congr fun x => ?_⟩
    · simp +decide -implicitDefEqProofs only [stp,code_seq,evWanted,evOp,val,absV,evBin,evConv,evBuiltin,cmpInt,vals,partsOf,isAggD,cellsOf,isAggV,Nat.reduceEqDiff,Nat.reduceLT,Nat.reduceBEq,Nat.reduceBNe,reduceCtorEq,if_true,if_false,reduceIte,forall_const,IntKind.bits,IntKind.signed,eq_self_iff_true,finalOf,resultOf,cellsGood,AC.isCell,senv_mem,lift, Tryz.f68, hnt]
    · exact ⟨fun ⟨y, h, h3⟩ => ⟨y, h.2, h3⟩, fun ⟨y, h, h3⟩ => ⟨y, ⟨by have := hS.le h; omega, h⟩, h3⟩⟩

end Go.Proofs.YtdpielghjaehbaaGreat.Ev

/- regletref06: the ends of an expression, but for what stands again and again. -/
set_option linter.unusedSectionVars false
set_option linter.unusedSimpArgs false
set_option linter.unusedVariables false
namespace Go.Proofs.YtdpielghjaehbaaGreat.Ev
open Go.RowKit

variable {w0 : World} {Bx : Nat} {v0 : Value} {g : List Ru} {s : List UInt8} {utf : Bool} {NM : List (List UInt8)} {text : List UInt8} {nums : List Int} {least most : Int} {kids : List Ex}

theorem denAll_congr {M : Kn} {l : List Ex} {S T : Nat → Prop} (h : ∀ a, S a ↔ T a) (x : Nat) : denAll s utf M l S x ↔ denAll s utf M l T x :=
  ⟨denAll_mono l (fun _ _ _ _ h => h) (fun a => (h a).1) x, denAll_mono l (fun _ _ _ _ h => h) (fun a => (h a).2) x⟩

theorem findIx_range {nm : List UInt8} : ∀ (g : List Ru) (k : Nat), findIx nm g k = -1 ∨ ∃ i, i < g.length ∧ findIx nm g k = ((k + i : Nat) : Int)
  | [], k => .inl rfl
  | r :: g, k => by
    unfold findIx
    split
    · exact .inr ⟨0, by simp, rfl⟩
    · rcases findIx_range g (k + 1) with h | ⟨i, hi, h⟩
      · exact .inl h
      · exact .inr ⟨i + 1, by simp; omega, by rw [h]; congr 1; omega⟩

theorem Made.widen {n m L : Nat} {S : Nat → Prop} {d d1 d' : Seg} {v : AV} (h : Made m L S d1 v d') (hA : Adds n d d1) (hn : n ≤ m) : Made n L S d v d' := by
  obtain ⟨j, bs, h1, h2, h3, h4, h5⟩ := h
  exact ⟨j, bs, by omega, h2, hA.trans h3 hn, h4, h5⟩

set_option maxRecDepth 20000 in
set_option maxHeartbeats 4000000 in
theorem anyR_ok (ih : ∀ e ∈ kids, EndsR w0 Bx v0 g s utf NM e) (hs0 : s.length < 1000) : EndsR w0 Bx v0 g s utf NM (.mk 1 text nums least most kids) := by
  intro B0 cs ix d n T row mk M a hcs hwf hx1 ht ha
  refine callsA_code lenv_ok none1_ok Tryz.func41 rfl (by decide) rfl rfl (by simp) fun hl _ Q hQ => ?_
  have hwf0 := hwf
  have hcs0 := hcs
  simp only [wfEx, Bool.and_eq_true, decide_eq_true_eq] at hwf
  obtain ⟨⟨⟨⟨⟨⟨⟨⟨hw3, hw4⟩, hw7⟩, hnl⟩, htl⟩, hkl⟩, hw8⟩, hw9⟩, hwk⟩ := hwf
  obtain ⟨L, N0, K0, rfl, hx⟩ := six_of hcs
  obtain ⟨L, hLe⟩ : ∃ L, cs.map lift = L := ⟨_, rfl⟩
  rw [hLe] at hx ⊢
  obtain ⟨h6, hg, c0, c1, c2, c3, c4, c5, hT, hK, hN⟩ := hx
  have hixn := (hl ix _ hx1).1
  have hx2 := hx1
  unfold SR at hx2
  have e1 : ¬ n = ix := by omega
  have e2 : ¬ n + 1 = ix := by omega
  have e3 : ¬ n + 1 = n := by omega
  have hw1 : IntKind.i64.wrap ((s.length : Int) + 1) = ((s.length + 1 : Nat) : Int) := wrap_succ (by omega)
  have hp0 : (0 : Int) ≤ ((s.length + 1 : Nat) : Int) := by omega
  have hp1 : ((s.length + 1 : Nat) : Int) ≤ 100000 := by omega
  have ha0 : (0 : Int) ≤ (a : Int) := by omega
  have ha1 : (a : Int) < ((s.length + 1 : Nat) : Int) := by omega
  have ha2 : a + 1 ≤ s.length + 1 := by omega
  simp +decide -implicitDefEqProofs only [stp,code_seq,evWanted,evOp,val,absV,evBin,evConv,evBuiltin,cmpInt,vals,partsOf,isAggD,cellsOf,isAggV,Nat.reduceEqDiff,Nat.reduceLT,Nat.reduceBEq,Nat.reduceBNe,reduceCtorEq,if_true,if_false,reduceIte,forall_const,IntKind.bits,IntKind.signed,eq_self_iff_true,finalOf,resultOf,cellsGood,AC.isCell,senv_mem,lift, Tryz.f41, lty3,lty4,lty5,lty9,lty22,lty33,lty25,lty34,lty23,lty36,lty40,lty98,lty96,lty93,lty95,lty54,lty38,lty31, lenv_mem, none1, h6, hg, c0, hx2, e1, e2, e3, hw1, hp0, hp1, Int.toNat_natCast, rep_mks]
  obtain ⟨D, hD⟩ : ∃ D, (n + 1, some (AObj.cells 4 (mksC (List.replicate (s.length + 1) false)))) :: (n, some (AObj.cells 36 L)) :: d = D := ⟨_, rfl⟩
  have hAD : Adds n d D := by rw [← hD]; exact ((Adds.refl n d).cons (Nat.le_refl _)).cons (by omega)
  have hxD : get [D] ix = some (.cells 95 [lift v0, .str s, .bool utf, T]) := by rw [← hD, get_cons, if_neg e2, get_cons, if_neg e1]; exact hx1
  have hED : get [D] n = some (.cells 36 L) := by rw [← hD, get_cons, if_neg e3, get_cons, if_pos rfl]
  have hMD : get [D] (n + 1) = some (.cells 4 (mksC (List.replicate (s.length + 1) false))) := by rw [← hD, get_cons, if_pos rfl]
  rw [hD]
  refine code_loop lenv_ok none1_ok (fun q sl d' n' => sl.nt = 153 ∧ n + 2 ≤ n' ∧ Adds n d d' ∧ get [d'] n = some (.cells 36 L) ∧ ∃ (i : Nat) (bs : List Bool), i + q = kids.length ∧ sl.get 0 = .c (.ptr ix 0) ∧ sl.get 2 = .c (.int .i64 a) ∧ sl.get 4 = .c (.ptr n 0) ∧ sl.get 7 = .c (.sl (n + 1) (s.length + 1)) ∧
    sl.get 8 = .c (.int .i64 i) ∧ get [d'] (n + 1) = some (.cells 4 (mksC bs)) ∧ Is s.length bs (fun x => ∃ e ∈ kids.take i, den s utf (kn g M) e a x)) kids.length ?_ ?_
  · refine ⟨by simp only [nt_put], Nat.le_refl _, hAD, hED, 0, List.replicate (s.length + 1) false, by omega, ?_⟩
    simp +decide -implicitDefEqProofs only [stp,code_seq,evWanted,evOp,val,absV,evBin,evConv,evBuiltin,cmpInt,vals,partsOf,isAggD,cellsOf,isAggV,Nat.reduceEqDiff,Nat.reduceLT,Nat.reduceBEq,Nat.reduceBNe,reduceCtorEq,if_true,if_false,reduceIte,forall_const,IntKind.bits,IntKind.signed,eq_self_iff_true,finalOf,resultOf,cellsGood,AC.isCell,senv_mem,lift]
    exact ⟨rfl, hMD, is_rep fun x ⟨e, he, _⟩ => by simp at he⟩
  clear hxD hED hMD hAD
  rintro q sl d1 n1 ⟨hnt, hn1, hA1, gn, i, bs, hiq, g0, g2, g4, g7, g8, hm, hI⟩ hl1 hs1 Q' hQ1 hQ2
  by_cases hi : (i : Int) < kids.length
  · rcases hK with ⟨rfl, rfl⟩ | ⟨b, cap, rfl, hkid⟩
    · simp at hi; omega
    have hi0 : (0 : Int) ≤ i := by omega
    have hi' : i < kids.length := by omega
    have hie : kids[i]? = some kids[i] := List.getElem?_eq_getElem hi'
    have hin : kids[i] ∈ kids := List.getElem_mem hi'
    obtain ⟨ks, hks, hex⟩ := hkid i _ hie
    rw [← memCells_l] at hks
    have hih := fun d n (h1 : SR d ix (lift v0) s utf T) (h2 : Tab d T g.length s.length row mk M) => ih kids[i] hin B0 ks ix d n T row mk M a hex (wfAll_mem hwk _ hin) h1 h2 ha
    generalize ks.map lift = L' at hks hih
    simp +decide -implicitDefEqProofs only [stp,code_seq,evWanted,evOp,val,absV,evBin,evConv,evBuiltin,cmpInt,vals,partsOf,isAggD,cellsOf,isAggV,Nat.reduceEqDiff,Nat.reduceLT,Nat.reduceBEq,Nat.reduceBNe,reduceCtorEq,if_true,if_false,reduceIte,forall_const,IntKind.bits,IntKind.signed,eq_self_iff_true,finalOf,resultOf,cellsGood,AC.isCell,senv_mem,lift, lty3,lty4,lty5,lty9,lty22,lty33,lty25,lty34,lty23,lty36,lty40,lty98,lty96,lty93,lty95,lty54,lty38,lty31, lenv_mem, none1, hnt, g0, g2, g4, g7, g8, gn, c5, hi, hi0, Int.toNat_natCast, hks]
    refine call_mono (hih d1 n1 (hx1.keep hl hA1.keeps) (ht.keep hl hA1.keeps)) fun v d2 n2 hR hl2 hle2 hok2 => ?_
    obtain ⟨j2, bs2, hj2, rfl, hA2, hm2, hI2⟩ := hR
    have hm1 := (hA2.keeps (n + 1) (by omega)).trans hm
    simp +decide -implicitDefEqProofs only [stp,code_seq,evWanted,evOp,val,absV,evBin,evConv,evBuiltin,cmpInt,vals,partsOf,isAggD,cellsOf,isAggV,Nat.reduceEqDiff,Nat.reduceLT,Nat.reduceBEq,Nat.reduceBNe,reduceCtorEq,if_true,if_false,reduceIte,forall_const,IntKind.bits,IntKind.signed,eq_self_iff_true,finalOf,resultOf,cellsGood,AC.isCell,senv_mem,lift, lty3,lty4,lty5,lty9,lty22,lty33,lty25,lty34,lty23,lty36,lty40,lty98,lty96,lty93,lty95,lty54,lty38,lty31, lenv_mem, none1, hnt, g0, g2, g4, g7, g8]
    refine call_mono (join_okL hm1 hm2 (by omega) hI.1 hI2.1 (by omega)) fun v d3 n3 hR hl3 hle3 hok3 => ?_
    obtain ⟨rfl, rfl, hids, hm3⟩ := hR
    simp +decide -implicitDefEqProofs only [stp,code_seq,evWanted,evOp,val,absV,evBin,evConv,evBuiltin,cmpInt,vals,partsOf,isAggD,cellsOf,isAggV,Nat.reduceEqDiff,Nat.reduceLT,Nat.reduceBEq,Nat.reduceBNe,reduceCtorEq,if_true,if_false,reduceIte,forall_const,IntKind.bits,IntKind.signed,eq_self_iff_true,finalOf,resultOf,cellsGood,AC.isCell,senv_mem,lift, lty3,lty4,lty5,lty9,lty22,lty33,lty25,lty34,lty23,lty36,lty40,lty98,lty96,lty93,lty95,lty54,lty38,lty31, lenv_mem, none1, hnt, g0, g2, g4, g7, g8]
    refine hQ1 (q - 1) _ _ _ (by omega) ⟨by simp only [nt_put, hnt], by omega, (hA1.trans hA2 (by omega)).trans (ids_adds hids (show n ≤ n + 1 by omega)) (Nat.le_refl _), ?_, i + 1, orL bs bs2, by omega, ?_⟩
    · rw [ids_other hids (by omega), hA2.keeps n (by omega)]; exact gn
    simp +decide -implicitDefEqProofs only [stp,code_seq,evWanted,evOp,val,absV,evBin,evConv,evBuiltin,cmpInt,vals,partsOf,isAggD,cellsOf,isAggV,Nat.reduceEqDiff,Nat.reduceLT,Nat.reduceBEq,Nat.reduceBNe,reduceCtorEq,if_true,if_false,reduceIte,forall_const,IntKind.bits,IntKind.signed,eq_self_iff_true,finalOf,resultOf,cellsGood,AC.isCell,senv_mem,lift, hnt, g0, g2, g4, g7]
    rw [wrap_succ (by omega)]
    refine ⟨rfl, hm3, (is_or hI hI2).congr fun x => ?_⟩
    rw [List.take_add_one, hie]
    simp only [Option.toList_some, List.mem_append, List.mem_singleton]
    constructor
    · rintro (⟨e, h1, h2⟩ | h)
      · exact ⟨e, .inl h1, h2⟩
      · exact ⟨_, .inr rfl, h⟩
    · rintro ⟨e, h1 | rfl, h2⟩
      · exact .inl ⟨e, h1, h2⟩
      · exact .inr h2
  · have htk : kids.take i = kids := by rw [show i = kids.length by omega, List.take_length]
    rcases hK with ⟨rfl, rfl⟩ | ⟨b, cap, rfl, hkid⟩
    · have hi : ¬ (i : Int) < 0 := by omega
      simp +decide -implicitDefEqProofs only [stp,code_seq,evWanted,evOp,val,absV,evBin,evConv,evBuiltin,cmpInt,vals,partsOf,isAggD,cellsOf,isAggV,Nat.reduceEqDiff,Nat.reduceLT,Nat.reduceBEq,Nat.reduceBNe,reduceCtorEq,if_true,if_false,reduceIte,forall_const,IntKind.bits,IntKind.signed,eq_self_iff_true,finalOf,resultOf,cellsGood,AC.isCell,senv_mem,lift, lty3,lty4,lty5,lty9,lty22,lty33,lty25,lty34,lty23,lty36,lty40,lty98,lty96,lty93,lty95,lty54,lty38,lty31, lenv_mem, none1, hnt, g0, g2, g4, g7, g8, gn, c5, hi]
      refine hQ2 _ _ _ _ (by simp) ?_
      simp +decide -implicitDefEqProofs only [stp,code_seq,evWanted,evOp,val,absV,evBin,evConv,evBuiltin,cmpInt,vals,partsOf,isAggD,cellsOf,isAggV,Nat.reduceEqDiff,Nat.reduceLT,Nat.reduceBEq,Nat.reduceBNe,reduceCtorEq,if_true,if_false,reduceIte,forall_const,IntKind.bits,IntKind.signed,eq_self_iff_true,finalOf,resultOf,cellsGood,AC.isCell,senv_mem,lift, lty3,lty4,lty5,lty9,lty22,lty33,lty25,lty34,lty23,lty36,lty40,lty98,lty96,lty93,lty95,lty54,lty38,lty31, lenv_mem, none1, hnt, g0, g2, g4, g7]
      refine hQ _ _ _ _ (.c (.sl (n + 1) (s.length + 1))) (by simp) ?_ ⟨n + 1, bs, Nat.le_succ n, rfl, hA1, hm, hI.congr fun x => ?_⟩
      · simp +decide -implicitDefEqProofs only [stp,code_seq,evWanted,evOp,val,absV,evBin,evConv,evBuiltin,cmpInt,vals,partsOf,isAggD,cellsOf,isAggV,Nat.reduceEqDiff,Nat.reduceLT,Nat.reduceBEq,Nat.reduceBNe,reduceCtorEq,if_true,if_false,reduceIte,forall_const,IntKind.bits,IntKind.signed,eq_self_iff_true,finalOf,resultOf,cellsGood,AC.isCell,senv_mem,lift, Tryz.f41, hnt]
      · rw [den_mk]
        simp only [if_true]
        rw [denAny_iff, htk]
    · skip
      simp +decide -implicitDefEqProofs only [stp,code_seq,evWanted,evOp,val,absV,evBin,evConv,evBuiltin,cmpInt,vals,partsOf,isAggD,cellsOf,isAggV,Nat.reduceEqDiff,Nat.reduceLT,Nat.reduceBEq,Nat.reduceBNe,reduceCtorEq,if_true,if_false,reduceIte,forall_const,IntKind.bits,IntKind.signed,eq_self_iff_true,finalOf,resultOf,cellsGood,AC.isCell,senv_mem,lift, lty3,lty4,lty5,lty9,lty22,lty33,lty25,lty34,lty23,lty36,lty40,lty98,lty96,lty93,lty95,lty54,lty38,lty31, lenv_mem, none1, hnt, g0, g2, g4, g7, g8, gn, c5, hi]
      refine hQ2 _ _ _ _ (by simp) ?_
      simp +decide -implicitDefEqProofs only [stp,code_seq,evWanted,evOp,val,absV,evBin,evConv,evBuiltin,cmpInt,vals,partsOf,isAggD,cellsOf,isAggV,Nat.reduceEqDiff,Nat.reduceLT,Nat.reduceBEq,Nat.reduceBNe,reduceCtorEq,if_true,if_false,reduceIte,forall_const,IntKind.bits,IntKind.signed,eq_self_iff_true,finalOf,resultOf,cellsGood,AC.isCell,senv_mem,lift, lty3,lty4,lty5,lty9,lty22,lty33,lty25,lty34,lty23,lty36,lty40,lty98,lty96,lty93,lty95,lty54,lty38,lty31, lenv_mem, none1, hnt, g0, g2, g4, g7]
      refine hQ _ _ _ _ (.c (.sl (n + 1) (s.length + 1))) (by simp) ?_ ⟨n + 1, bs, Nat.le_succ n, rfl, hA1, hm, hI.congr fun x => ?_⟩
      · simp +decide -implicitDefEqProofs only [stp,code_seq,evWanted,evOp,val,absV,evBin,evConv,evBuiltin,cmpInt,vals,partsOf,isAggD,cellsOf,isAggV,Nat.reduceEqDiff,Nat.reduceLT,Nat.reduceBEq,Nat.reduceBNe,reduceCtorEq,if_true,if_false,reduceIte,forall_const,IntKind.bits,IntKind.signed,eq_self_iff_true,finalOf,resultOf,cellsGood,AC.isCell,senv_mem,lift, Tryz.f41, hnt]
      · rw [den_mk]
        simp only [if_true]
        rw [denAny_iff, htk]

set_option maxRecDepth 20000 in
set_option maxHeartbeats 4000000 in
theorem seqR_ok (ih : ∀ e ∈ kids, EndsR w0 Bx v0 g s utf NM e) (hs0 : s.length < 1000) : EndsR w0 Bx v0 g s utf NM (.mk 2 text nums least most kids) := by
  intro B0 cs ix d n T row mk M a hcs hwf hx1 ht ha
  refine callsA_code lenv_ok none1_ok Tryz.func41 rfl (by decide) rfl rfl (by simp) fun hl _ Q hQ => ?_
  have hwf0 := hwf
  have hcs0 := hcs
  simp only [wfEx, Bool.and_eq_true, decide_eq_true_eq] at hwf
  obtain ⟨⟨⟨⟨⟨⟨⟨⟨hw3, hw4⟩, hw7⟩, hnl⟩, htl⟩, hkl⟩, hw8⟩, hw9⟩, hwk⟩ := hwf
  obtain ⟨L, N0, K0, rfl, hx⟩ := six_of hcs
  obtain ⟨L, hLe⟩ : ∃ L, cs.map lift = L := ⟨_, rfl⟩
  rw [hLe] at hx ⊢
  obtain ⟨h6, hg, c0, c1, c2, c3, c4, c5, hT, hK, hN⟩ := hx
  have hixn := (hl ix _ hx1).1
  have hx2 := hx1
  unfold SR at hx2
  have e1 : ¬ n = ix := by omega
  have e2 : ¬ n + 1 = ix := by omega
  have e3 : ¬ n + 1 = n := by omega
  have hw1 : IntKind.i64.wrap ((s.length : Int) + 1) = ((s.length + 1 : Nat) : Int) := wrap_succ (by omega)
  have hp0 : (0 : Int) ≤ ((s.length + 1 : Nat) : Int) := by omega
  have hp1 : ((s.length + 1 : Nat) : Int) ≤ 100000 := by omega
  have ha0 : (0 : Int) ≤ (a : Int) := by omega
  have ha1 : (a : Int) < ((s.length + 1 : Nat) : Int) := by omega
  have ha2 : a + 1 ≤ s.length + 1 := by omega
  have hst := splice_mks (X := List.replicate (s.length + 1) false) (i := a) (b := true) (by simp; omega)
  simp +decide -implicitDefEqProofs only [stp,code_seq,evWanted,evOp,val,absV,evBin,evConv,evBuiltin,cmpInt,vals,partsOf,isAggD,cellsOf,isAggV,Nat.reduceEqDiff,Nat.reduceLT,Nat.reduceBEq,Nat.reduceBNe,reduceCtorEq,if_true,if_false,reduceIte,forall_const,IntKind.bits,IntKind.signed,eq_self_iff_true,finalOf,resultOf,cellsGood,AC.isCell,senv_mem,lift, Tryz.f41, lty3,lty4,lty5,lty9,lty22,lty33,lty25,lty34,lty23,lty36,lty40,lty98,lty96,lty93,lty95,lty54,lty38,lty31, lenv_mem, none1, h6, hg, c0, hx2, e1, e2, e3, hw1, hp0, hp1, Int.toNat_natCast, rep_mks, ha0, ha1, ha2, mksC_len, List.length_replicate, hst, Bool.true_or]
  have hI0 := is_put (b := true) (is_rep (L := s.length) (S := fun _ => False) (fun _ => id)) ha
  refine code_loop lenv_ok none1_ok (fun q sl d' n' => sl.nt = 153 ∧ n + 2 ≤ n' ∧ Adds n d d' ∧ get [d'] n = some (.cells 36 L) ∧ ∃ (i j : Nat) (bs : List Bool), i + q = kids.length ∧ n + 1 ≤ j ∧ sl.get 0 = .c (.ptr ix 0) ∧ sl.get 4 = .c (.ptr n 0) ∧ sl.get 7 = .c (.sl j (s.length + 1)) ∧
    sl.get 9 = .c (.int .i64 i) ∧ get [d'] j = some (.cells 4 (mksC bs)) ∧ bs.length = s.length + 1 ∧ ∀ x, den s utf (kn g M) (.mk 2 text nums least most kids) a x ↔ denAll s utf (kn g M) (kids.drop i) (fun y => bs[y]? = some true) x) kids.length ?_ ?_
  · refine ⟨by simp only [nt_put], Nat.le_refl _, (((Adds.refl n d).cons (Nat.le_refl _)).cons (by omega)).cons (by omega), by rw [get_cons, if_neg e3, get_cons, if_neg e3, get_cons, if_pos rfl], 0, n + 1, (List.replicate (s.length + 1) false).set a true, by omega, Nat.le_refl _, ?_⟩
    simp +decide -implicitDefEqProofs only [stp,code_seq,evWanted,evOp,val,absV,evBin,evConv,evBuiltin,cmpInt,vals,partsOf,isAggD,cellsOf,isAggV,Nat.reduceEqDiff,Nat.reduceLT,Nat.reduceBEq,Nat.reduceBNe,reduceCtorEq,if_true,if_false,reduceIte,forall_const,IntKind.bits,IntKind.signed,eq_self_iff_true,finalOf,resultOf,cellsGood,AC.isCell,senv_mem,lift]
    refine ⟨rfl, hI0.1, fun x => ?_⟩
    rw [den_seq, List.drop_zero]
    refine denAll_congr (fun y => ?_) x
    rw [hI0.2 y]
    simp
  rintro q sl d1 n1 ⟨hnt, hn1, hA1, gn, i, j, bs, hiq, hj, g0, g4, g7, g9, hm, hbl, hden⟩ hl1 hs1 Q' hQ1 hQ2
  by_cases hi : (i : Int) < kids.length
  · rcases hK with ⟨rfl, rfl⟩ | ⟨b, cap, rfl, hkid⟩
    · simp at hi; omega
    have hi0 : (0 : Int) ≤ i := by omega
    have hi' : i < kids.length := by omega
    have hie : kids[i]? = some kids[i] := List.getElem?_eq_getElem hi'
    have hin : kids[i] ∈ kids := List.getElem_mem hi'
    obtain ⟨ks, hks, hex⟩ := hkid i _ hie
    rw [← memCells_l] at hks
    have hfr := fun d n (h1 : SR d ix (lift v0) s utf T) (h2 : Tab d T g.length s.length row mk M) (h3 : get [d] j = some (.cells 4 (mksC bs))) => fromR_ok (B0 := B0) (n := n) (ih kids[i] hin) hex (wfAll_mem hwk _ hin) h1 h2 h3 (S := fun y => bs[y]? = some true) ⟨hbl, fun _ => Iff.rfl⟩ hs0
    generalize ks.map lift = L' at hks hfr
    simp +decide -implicitDefEqProofs only [stp,code_seq,evWanted,evOp,val,absV,evBin,evConv,evBuiltin,cmpInt,vals,partsOf,isAggD,cellsOf,isAggV,Nat.reduceEqDiff,Nat.reduceLT,Nat.reduceBEq,Nat.reduceBNe,reduceCtorEq,if_true,if_false,reduceIte,forall_const,IntKind.bits,IntKind.signed,eq_self_iff_true,finalOf,resultOf,cellsGood,AC.isCell,senv_mem,lift, lty3,lty4,lty5,lty9,lty22,lty33,lty25,lty34,lty23,lty36,lty40,lty98,lty96,lty93,lty95,lty54,lty38,lty31, lenv_mem, none1, hnt, g0, g4, g7, g9, gn, c5, hi, hi0, Int.toNat_natCast, hks]
    refine call_mono (hfr d1 n1 (hx1.keep hl hA1.keeps) (ht.keep hl hA1.keeps) hm) fun v d2 n2 hR hl2 hle2 hok2 => ?_
    obtain ⟨j2, bs2, hj2, rfl, hA2, hm2, hI2⟩ := hR
    simp +decide -implicitDefEqProofs only [stp,code_seq,evWanted,evOp,val,absV,evBin,evConv,evBuiltin,cmpInt,vals,partsOf,isAggD,cellsOf,isAggV,Nat.reduceEqDiff,Nat.reduceLT,Nat.reduceBEq,Nat.reduceBNe,reduceCtorEq,if_true,if_false,reduceIte,forall_const,IntKind.bits,IntKind.signed,eq_self_iff_true,finalOf,resultOf,cellsGood,AC.isCell,senv_mem,lift, lty3,lty4,lty5,lty9,lty22,lty33,lty25,lty34,lty23,lty36,lty40,lty98,lty96,lty93,lty95,lty54,lty38,lty31, lenv_mem, none1, hnt, g0, g4, g7, g9]
    refine hQ1 (q - 1) _ _ _ (by omega) ⟨by simp only [nt_put, hnt], by omega, hA1.trans hA2 (by omega), (hA2.keeps n (by omega)).trans gn, i + 1, j2, bs2, by omega, by omega, ?_⟩
    simp +decide -implicitDefEqProofs only [stp,code_seq,evWanted,evOp,val,absV,evBin,evConv,evBuiltin,cmpInt,vals,partsOf,isAggD,cellsOf,isAggV,Nat.reduceEqDiff,Nat.reduceLT,Nat.reduceBEq,Nat.reduceBNe,reduceCtorEq,if_true,if_false,reduceIte,forall_const,IntKind.bits,IntKind.signed,eq_self_iff_true,finalOf,resultOf,cellsGood,AC.isCell,senv_mem,lift, hnt, g0, g4]
    rw [wrap_succ (by omega)]
    refine ⟨rfl, hm2, hI2.1, fun x => ?_⟩
    rw [hden, List.drop_eq_getElem_cons hi']
    simp only [denAll]
    exact denAll_congr (fun y => (hI2.2 y).symm) x
  · have hdk : kids.drop i = [] := by rw [show i = kids.length by omega, List.drop_length]
    rcases hK with ⟨rfl, rfl⟩ | ⟨b, cap, rfl, hkid⟩
    · have hi : ¬ (i : Int) < 0 := by omega
      simp +decide -implicitDefEqProofs only [stp,code_seq,evWanted,evOp,val,absV,evBin,evConv,evBuiltin,cmpInt,vals,partsOf,isAggD,cellsOf,isAggV,Nat.reduceEqDiff,Nat.reduceLT,Nat.reduceBEq,Nat.reduceBNe,reduceCtorEq,if_true,if_false,reduceIte,forall_const,IntKind.bits,IntKind.signed,eq_self_iff_true,finalOf,resultOf,cellsGood,AC.isCell,senv_mem,lift, lty3,lty4,lty5,lty9,lty22,lty33,lty25,lty34,lty23,lty36,lty40,lty98,lty96,lty93,lty95,lty54,lty38,lty31, lenv_mem, none1, hnt, g0, g4, g7, g9, gn, c5, hi]
      refine hQ2 _ _ _ _ (by simp) ?_
      simp +decide -implicitDefEqProofs only [stp,code_seq,evWanted,evOp,val,absV,evBin,evConv,evBuiltin,cmpInt,vals,partsOf,isAggD,cellsOf,isAggV,Nat.reduceEqDiff,Nat.reduceLT,Nat.reduceBEq,Nat.reduceBNe,reduceCtorEq,if_true,if_false,reduceIte,forall_const,IntKind.bits,IntKind.signed,eq_self_iff_true,finalOf,resultOf,cellsGood,AC.isCell,senv_mem,lift, lty3,lty4,lty5,lty9,lty22,lty33,lty25,lty34,lty23,lty36,lty40,lty98,lty96,lty93,lty95,lty54,lty38,lty31, lenv_mem, none1, hnt, g0, g4, g7]
      refine hQ _ _ _ _ (.c (.sl j (s.length + 1))) (by simp) ?_ ⟨j, bs, by omega, rfl, hA1, hm, hbl, fun x => ?_⟩
      · simp +decide -implicitDefEqProofs only [stp,code_seq,evWanted,evOp,val,absV,evBin,evConv,evBuiltin,cmpInt,vals,partsOf,isAggD,cellsOf,isAggV,Nat.reduceEqDiff,Nat.reduceLT,Nat.reduceBEq,Nat.reduceBNe,reduceCtorEq,if_true,if_false,reduceIte,forall_const,IntKind.bits,IntKind.signed,eq_self_iff_true,finalOf,resultOf,cellsGood,AC.isCell,senv_mem,lift, Tryz.f41, hnt]
      · rw [hden, hdk]
        simp only [denAll]
    · skip
      simp +decide -implicitDefEqProofs only [stp,code_seq,evWanted,evOp,val,absV,evBin,evConv,evBuiltin,cmpInt,vals,partsOf,isAggD,cellsOf,isAggV,Nat.reduceEqDiff,Nat.reduceLT,Nat.reduceBEq,Nat.reduceBNe,reduceCtorEq,if_true,if_false,reduceIte,forall_const,IntKind.bits,IntKind.signed,eq_self_iff_true,finalOf,resultOf,cellsGood,AC.isCell,senv_mem,lift, lty3,lty4,lty5,lty9,lty22,lty33,lty25,lty34,lty23,lty36,lty40,lty98,lty96,lty93,lty95,lty54,lty38,lty31, lenv_mem, none1, hnt, g0, g4, g7, g9, gn, c5, hi]
      refine hQ2 _ _ _ _ (by simp) ?_
      simp +decide -implicitDefEqProofs only [stp,code_seq,evWanted,evOp,val,absV,evBin,evConv,evBuiltin,cmpInt,vals,partsOf,isAggD,cellsOf,isAggV,Nat.reduceEqDiff,Nat.reduceLT,Nat.reduceBEq,Nat.reduceBNe,reduceCtorEq,if_true,if_false,reduceIte,forall_const,IntKind.bits,IntKind.signed,eq_self_iff_true,finalOf,resultOf,cellsGood,AC.isCell,senv_mem,lift, lty3,lty4,lty5,lty9,lty22,lty33,lty25,lty34,lty23,lty36,lty40,lty98,lty96,lty93,lty95,lty54,lty38,lty31, lenv_mem, none1, hnt, g0, g4, g7]
      refine hQ _ _ _ _ (.c (.sl j (s.length + 1))) (by simp) ?_ ⟨j, bs, by omega, rfl, hA1, hm, hbl, fun x => ?_⟩
      · simp +decide -implicitDefEqProofs only [stp,code_seq,evWanted,evOp,val,absV,evBin,evConv,evBuiltin,cmpInt,vals,partsOf,isAggD,cellsOf,isAggV,Nat.reduceEqDiff,Nat.reduceLT,Nat.reduceBEq,Nat.reduceBNe,reduceCtorEq,if_true,if_false,reduceIte,forall_const,IntKind.bits,IntKind.signed,eq_self_iff_true,finalOf,resultOf,cellsGood,AC.isCell,senv_mem,lift, Tryz.f41, hnt]
      · rw [hden, hdk]
        simp only [denAll]

set_option maxRecDepth 20000 in
set_option maxHeartbeats 4000000 in
theorem refR_ok (hv : RulesAt w0 Bx v0 g) (hgl : g.length < 100000) (hs0 : s.length < 1000) : EndsR w0 Bx v0 g s utf NM (.mk 4 text nums least most kids) := by
  intro B0 cs ix d n T row mk M a hcs hwf hx1 ht ha
  refine callsA_code lenv_ok none1_ok Tryz.func41 rfl (by decide) rfl rfl (by simp) fun hl _ Q hQ => ?_
  have hwf0 := hwf
  have hcs0 := hcs
  simp only [wfEx, Bool.and_eq_true, decide_eq_true_eq] at hwf
  obtain ⟨⟨⟨⟨⟨⟨⟨⟨hw3, hw4⟩, hw7⟩, hnl⟩, htl⟩, hkl⟩, hw8⟩, hw9⟩, hwk⟩ := hwf
  obtain ⟨L, N0, K0, rfl, hx⟩ := six_of hcs
  obtain ⟨L, hLe⟩ : ∃ L, cs.map lift = L := ⟨_, rfl⟩
  rw [hLe] at hx ⊢
  obtain ⟨h6, hg, c0, c1, c2, c3, c4, c5, hT, hK, hN⟩ := hx
  have hixn := (hl ix _ hx1).1
  have hx2 := hx1
  unfold SR at hx2
  have e1 : ¬ n = ix := by omega
  have e2 : ¬ n + 1 = ix := by omega
  have e3 : ¬ n + 1 = n := by omega
  have hw1 : IntKind.i64.wrap ((s.length : Int) + 1) = ((s.length + 1 : Nat) : Int) := wrap_succ (by omega)
  have hp0 : (0 : Int) ≤ ((s.length + 1 : Nat) : Int) := by omega
  have hp1 : ((s.length + 1 : Nat) : Int) ≤ 100000 := by omega
  have ha0 : (0 : Int) ≤ (a : Int) := by omega
  have ha1 : (a : Int) < ((s.length + 1 : Nat) : Int) := by omega
  have ha2 : a + 1 ≤ s.length + 1 := by omega
  simp +decide -implicitDefEqProofs only [stp,code_seq,evWanted,evOp,val,absV,evBin,evConv,evBuiltin,cmpInt,vals,partsOf,isAggD,cellsOf,isAggV,Nat.reduceEqDiff,Nat.reduceLT,Nat.reduceBEq,Nat.reduceBNe,reduceCtorEq,if_true,if_false,reduceIte,forall_const,IntKind.bits,IntKind.signed,eq_self_iff_true,finalOf,resultOf,cellsGood,AC.isCell,senv_mem,lift, Tryz.f41, lty3,lty4,lty5,lty9,lty22,lty33,lty25,lty34,lty23,lty36,lty40,lty98,lty96,lty93,lty95,lty54,lty38,lty31, lenv_mem, none1, h6, hg, c0, hx2, e1, e2, e3, hw1, hp0, hp1, Int.toNat_natCast, rep_mks]
  obtain ⟨D, hD⟩ : ∃ D, (n + 1, some (AObj.cells 4 (mksC (List.replicate (s.length + 1) false)))) :: (n, some (AObj.cells 36 L)) :: d = D := ⟨_, rfl⟩
  have hAD : Adds n d D := by rw [← hD]; exact ((Adds.refl n d).cons (Nat.le_refl _)).cons (by omega)
  have hxD : get [D] ix = some (.cells 95 [lift v0, .str s, .bool utf, T]) := by rw [← hD, get_cons, if_neg e2, get_cons, if_neg e1]; exact hx1
  have hED : get [D] n = some (.cells 36 L) := by rw [← hD, get_cons, if_neg e3, get_cons, if_pos rfl]
  have hMD : get [D] (n + 1) = some (.cells 4 (mksC (List.replicate (s.length + 1) false))) := by rw [← hD, get_cons, if_pos rfl]
  rw [hD]
  apply code_tail lenv_ok none1_ok 6 (by kernel_rfl) (by kernel_rfl)
  · simp +decide -implicitDefEqProofs only [stp,code_seq,evWanted,evOp,val,absV,evBin,evConv,evBuiltin,cmpInt,vals,partsOf,isAggD,cellsOf,isAggV,Nat.reduceEqDiff,Nat.reduceLT,Nat.reduceBEq,Nat.reduceBNe,reduceCtorEq,if_true,if_false,reduceIte,forall_const,IntKind.bits,IntKind.signed,eq_self_iff_true,finalOf,resultOf,cellsGood,AC.isCell,senv_mem,lift, flat,d_nil,d_cons,d_true,d_false,d_some,d_some1,slotsAt_get,slotsAt_nt,get_mk_cons,get_mk,wrs_nil,wrs_cons,wrs_none,get_heapAt,get_seen_nil,get_seen_cons,get_seen_one,List.cons_append,List.nil_append,Nat.reduceSub,Nat.reduceAdd,Nat.add_one_sub_one,bitOf, evOps, lty3,lty4,lty5,lty9,lty22,lty33,lty25,lty34,lty23,lty36,lty40,lty98,lty96,lty93,lty95,lty54,lty38,lty31, lenv_mem, hED, hxD, c1, spliceAll,allFields,places,splice,List.take_zero,List.take_succ_cons,List.take_nil,List.drop_zero,List.drop_succ_cons,List.drop_nil,List.nil_append,List.append_nil,List.cons_append,List.all_cons,List.all_nil,Option.isSome_some,Nat.reduceAdd,Nat.reduceSub,Nat.reduceMul,Nat.reduceMod,Nat.reduceLeDiff,List.range,List.range.loop,List.map_cons,List.map_nil,pfind]
    rfl
  · simp +decide -implicitDefEqProofs only [stp,code_seq,evWanted,evOp,val,absV,evBin,evConv,evBuiltin,cmpInt,vals,partsOf,isAggD,cellsOf,isAggV,Nat.reduceEqDiff,Nat.reduceLT,Nat.reduceBEq,Nat.reduceBNe,reduceCtorEq,if_true,if_false,reduceIte,forall_const,IntKind.bits,IntKind.signed,eq_self_iff_true,finalOf,resultOf,cellsGood,AC.isCell,senv_mem,lift, flat,d_nil,d_cons,d_true,d_false,d_some,d_some1,slotsAt_get,slotsAt_nt,get_mk_cons,get_mk,wrs_nil,wrs_cons,wrs_none,get_heapAt,get_seen_nil,get_seen_cons,get_seen_one,List.cons_append,List.nil_append,Nat.reduceSub,Nat.reduceAdd,Nat.add_one_sub_one,bitOf, lty3,lty4,lty5,lty9,lty22,lty33,lty25,lty34,lty23,lty36,lty40,lty98,lty96,lty93,lty95,lty54,lty38,lty31, lenv_mem, none1, List.drop_succ_cons, List.drop_zero]
    refine call_mono (find5_ok hv hgl) fun v d1 n1 hR hl1 hle1 hok1 => ?_
    obtain ⟨rfl, rfl, rfl⟩ := hR
    have hden : ∀ x, den s utf (kn g M) (.mk 4 text nums least most kids) a x ↔ kn g M text a x := fun x => den_ref
    rcases findIx_range (nm := text) g 0 with hf | ⟨k, hk, hf⟩
    · have hk0 : ¬ ((-1 : Int) ≥ 0) := by omega
      rw [hf]
      simp +decide -implicitDefEqProofs only [stp,code_seq,evWanted,evOp,val,absV,evBin,evConv,evBuiltin,cmpInt,vals,partsOf,isAggD,cellsOf,isAggV,Nat.reduceEqDiff,Nat.reduceLT,Nat.reduceBEq,Nat.reduceBNe,reduceCtorEq,if_true,if_false,reduceIte,forall_const,IntKind.bits,IntKind.signed,eq_self_iff_true,finalOf,resultOf,cellsGood,AC.isCell,senv_mem,lift, lty3,lty4,lty5,lty9,lty22,lty33,lty25,lty34,lty23,lty36,lty40,lty98,lty96,lty93,lty95,lty54,lty38,lty31, lenv_mem, none1, hk0]
      refine hQ _ _ _ _ (.c (.sl (n + 1) (s.length + 1))) (by simp) ?_ ⟨n + 1, _, Nat.le_succ n, rfl, hAD, hMD, is_rep fun x hx => ?_⟩
      · simp +decide -implicitDefEqProofs only [stp,code_seq,evWanted,evOp,val,absV,evBin,evConv,evBuiltin,cmpInt,vals,partsOf,isAggD,cellsOf,isAggV,Nat.reduceEqDiff,Nat.reduceLT,Nat.reduceBEq,Nat.reduceBNe,reduceCtorEq,if_true,if_false,reduceIte,forall_const,IntKind.bits,IntKind.signed,eq_self_iff_true,finalOf,resultOf,cellsGood,AC.isCell,senv_mem,lift, Tryz.f41]
      · rw [hden] at hx
        obtain ⟨i, h1, h2, _⟩ := hx
        rw [hf] at h1; omega
    · rw [Nat.zero_add] at hf
      rw [hf]
      have hk0 : (k : Int) ≥ 0 := by omega
      have hk1 : (0 : Int) ≤ (k : Int) := by omega
      have hk2 : (k : Int) < (g.length : Int) := by omega
      have htD := ht.keep hl hAD.keeps
      rcases htD.top with ⟨h, _⟩ | ⟨t, tc, rfl, ht1, ht2, _⟩
      · omega
      have ht3 := ht2 k hk
      obtain ⟨rc, hr1, hr2⟩ := htD.rows k hk
      have hr3 := hr2 a ha
      obtain ⟨hm1, hm2⟩ := htD.mks k a hk ha
      have hmk : mk k a < n := (hl _ _ (ht.mks k a hk ha).1).1
      simp +decide -implicitDefEqProofs only [stp,code_seq,evWanted,evOp,val,absV,evBin,evConv,evBuiltin,cmpInt,vals,partsOf,isAggD,cellsOf,isAggV,Nat.reduceEqDiff,Nat.reduceLT,Nat.reduceBEq,Nat.reduceBNe,reduceCtorEq,if_true,if_false,reduceIte,forall_const,IntKind.bits,IntKind.signed,eq_self_iff_true,finalOf,resultOf,cellsGood,AC.isCell,senv_mem,lift, lty3,lty4,lty5,lty9,lty22,lty33,lty25,lty34,lty23,lty36,lty40,lty98,lty96,lty93,lty95,lty54,lty38,lty31, lenv_mem, none1, hk0, hk1, hk2, hxD, ht1, ht3, hr1, hr3, ha0, ha1, Int.toNat_natCast]
      refine call_mono (join_okL hMD hm1 (by omega) (by simp) hm2 (by omega)) fun v d3 n3 hR hl3 hle3 hok3 => ?_
      obtain ⟨rfl, rfl, hids, hm3⟩ := hR
      simp +decide -implicitDefEqProofs only [stp,code_seq,evWanted,evOp,val,absV,evBin,evConv,evBuiltin,cmpInt,vals,partsOf,isAggD,cellsOf,isAggV,Nat.reduceEqDiff,Nat.reduceLT,Nat.reduceBEq,Nat.reduceBNe,reduceCtorEq,if_true,if_false,reduceIte,forall_const,IntKind.bits,IntKind.signed,eq_self_iff_true,finalOf,resultOf,cellsGood,AC.isCell,senv_mem,lift, lty3,lty4,lty5,lty9,lty22,lty33,lty25,lty34,lty23,lty36,lty40,lty98,lty96,lty93,lty95,lty54,lty38,lty31, lenv_mem, none1]
      refine hQ _ _ _ _ (.c (.sl (n + 1) (s.length + 1))) (by simp) ?_ ⟨n + 1, _, Nat.le_succ n, rfl, hAD.trans (ids_adds hids (show n ≤ n + 1 by omega)) (Nat.le_refl _), hm3, (is_or (is_rep (L := s.length) (S := fun _ => False) (fun _ => id)) (T := fun x => (M k a)[x]? = some true) ⟨hm2, fun _ => Iff.rfl⟩).congr fun x => ?_⟩
      · simp +decide -implicitDefEqProofs only [stp,code_seq,evWanted,evOp,val,absV,evBin,evConv,evBuiltin,cmpInt,vals,partsOf,isAggD,cellsOf,isAggV,Nat.reduceEqDiff,Nat.reduceLT,Nat.reduceBEq,Nat.reduceBNe,reduceCtorEq,if_true,if_false,reduceIte,forall_const,IntKind.bits,IntKind.signed,eq_self_iff_true,finalOf,resultOf,cellsGood,AC.isCell,senv_mem,lift, Tryz.f41]
      · rw [hden]
        constructor
        · rintro (h | h)
          · exact h.elim
          · exact ⟨k, hf, hk, h⟩
        · rintro ⟨i, h1, h2, h3⟩
          rw [hf] at h1
          have : i = k := by omega
          subst this
          exact .inr h3

set_option maxRecDepth 20000 in
set_option maxHeartbeats 4000000 in
theorem leafR_ok {kind : Int} (k1 : kind ≠ 1) (k2 : kind ≠ 2) (k3 : kind ≠ 3) (k4 : kind ≠ 4) (hs0 : s.length < 1000) : EndsR w0 Bx v0 g s utf NM (.mk kind text nums least most kids) := by
  intro B0 cs ix d n T row mk M a hcs hwf hx1 ht ha
  refine callsA_code lenv_ok none1_ok Tryz.func41 rfl (by decide) rfl rfl (by simp) fun hl _ Q hQ => ?_
  have hwf0 := hwf
  have hcs0 := hcs
  simp only [wfEx, Bool.and_eq_true, decide_eq_true_eq] at hwf
  obtain ⟨⟨⟨⟨⟨⟨⟨⟨hw3, hw4⟩, hw7⟩, hnl⟩, htl⟩, hkl⟩, hw8⟩, hw9⟩, hwk⟩ := hwf
  obtain ⟨L, N0, K0, rfl, hx⟩ := six_of hcs
  obtain ⟨L, hLe⟩ : ∃ L, cs.map lift = L := ⟨_, rfl⟩
  rw [hLe] at hx ⊢
  obtain ⟨h6, hg, c0, c1, c2, c3, c4, c5, hT, hK, hN⟩ := hx
  have hixn := (hl ix _ hx1).1
  have hx2 := hx1
  unfold SR at hx2
  have e1 : ¬ n = ix := by omega
  have e2 : ¬ n + 1 = ix := by omega
  have e3 : ¬ n + 1 = n := by omega
  have hw1 : IntKind.i64.wrap ((s.length : Int) + 1) = ((s.length + 1 : Nat) : Int) := wrap_succ (by omega)
  have hp0 : (0 : Int) ≤ ((s.length + 1 : Nat) : Int) := by omega
  have hp1 : ((s.length + 1 : Nat) : Int) ≤ 100000 := by omega
  have ha0 : (0 : Int) ≤ (a : Int) := by omega
  have ha1 : (a : Int) < ((s.length + 1 : Nat) : Int) := by omega
  have ha2 : a + 1 ≤ s.length + 1 := by omega
  have q1 : (kind == 1) = false := by simpa using k1
  have q2 : (kind == 2) = false := by simpa using k2
  have q3 : (kind == 3) = false := by simpa using k3
  have q4 : (kind == 4) = false := by simpa using k4
  simp +decide -implicitDefEqProofs only [stp,code_seq,evWanted,evOp,val,absV,evBin,evConv,evBuiltin,cmpInt,vals,partsOf,isAggD,cellsOf,isAggV,Nat.reduceEqDiff,Nat.reduceLT,Nat.reduceBEq,Nat.reduceBNe,reduceCtorEq,if_true,if_false,reduceIte,forall_const,IntKind.bits,IntKind.signed,eq_self_iff_true,finalOf,resultOf,cellsGood,AC.isCell,senv_mem,lift, Tryz.f41, lty3,lty4,lty5,lty9,lty22,lty33,lty25,lty34,lty23,lty36,lty40,lty98,lty96,lty93,lty95,lty54,lty38,lty31, lenv_mem, none1, h6, hg, c0, hx2, e1, e2, e3, hw1, hp0, hp1, Int.toNat_natCast, rep_mks, q1, q2, q3, q4, hT, Nat.le_refl, List.drop_zero]
  obtain ⟨D, hD⟩ : ∃ D, (n + 1, some (AObj.cells 4 (mksC (List.replicate (s.length + 1) false)))) :: (n, some (AObj.cells 36 L)) :: d = D := ⟨_, rfl⟩
  have hAD : Adds n d D := by rw [← hD]; exact ((Adds.refl n d).cons (Nat.le_refl _)).cons (by omega)
  have hxD : get [D] ix = some (.cells 95 [lift v0, .str s, .bool utf, T]) := by rw [← hD, get_cons, if_neg e2, get_cons, if_neg e1]; exact hx1
  have hED : get [D] n = some (.cells 36 L) := by rw [← hD, get_cons, if_neg e3, get_cons, if_pos rfl]
  have hMD : get [D] (n + 1) = some (.cells 4 (mksC (List.replicate (s.length + 1) false))) := by rw [← hD, get_cons, if_pos rfl]
  rw [hD]
  have hxS : SR D ix (lift v0) s utf T := hxD
  rw [← hLe]
  by_cases k5 : kind = 5
  · subst k5
    refine call_mono (leaf5_ok (NM := NM) (M := kn g M) hxS hcs0 hwf0 ha hs0) fun v d1 n1 hR hl1 hle1 hok1 => ?_
    have hR := hR.widen hAD (show n ≤ n + 2 by omega)
    simp +decide -implicitDefEqProofs only [stp,code_seq,evWanted,evOp,val,absV,evBin,evConv,evBuiltin,cmpInt,vals,partsOf,isAggD,cellsOf,isAggV,Nat.reduceEqDiff,Nat.reduceLT,Nat.reduceBEq,Nat.reduceBNe,reduceCtorEq,if_true,if_false,reduceIte,forall_const,IntKind.bits,IntKind.signed,eq_self_iff_true,finalOf,resultOf,cellsGood,AC.isCell,senv_mem,lift, lty3,lty4,lty5,lty9,lty22,lty33,lty25,lty34,lty23,lty36,lty40,lty98,lty96,lty93,lty95,lty54,lty38,lty31, lenv_mem, none1]
    refine hQ _ _ _ _ v (by simp) ?_ hR
    simp +decide -implicitDefEqProofs only [stp,code_seq,evWanted,evOp,val,absV,evBin,evConv,evBuiltin,cmpInt,vals,partsOf,isAggD,cellsOf,isAggV,Nat.reduceEqDiff,Nat.reduceLT,Nat.reduceBEq,Nat.reduceBNe,reduceCtorEq,if_true,if_false,reduceIte,forall_const,IntKind.bits,IntKind.signed,eq_self_iff_true,finalOf,resultOf,cellsGood,AC.isCell,senv_mem,lift, Tryz.f41]
  by_cases k6 : kind = 6
  · subst k6
    refine call_mono (leaf6_ok (NM := NM) (M := kn g M) hxS hcs0 hwf0 ha hs0) fun v d1 n1 hR hl1 hle1 hok1 => ?_
    have hR := hR.widen hAD (show n ≤ n + 2 by omega)
    simp +decide -implicitDefEqProofs only [stp,code_seq,evWanted,evOp,val,absV,evBin,evConv,evBuiltin,cmpInt,vals,partsOf,isAggD,cellsOf,isAggV,Nat.reduceEqDiff,Nat.reduceLT,Nat.reduceBEq,Nat.reduceBNe,reduceCtorEq,if_true,if_false,reduceIte,forall_const,IntKind.bits,IntKind.signed,eq_self_iff_true,finalOf,resultOf,cellsGood,AC.isCell,senv_mem,lift, lty3,lty4,lty5,lty9,lty22,lty33,lty25,lty34,lty23,lty36,lty40,lty98,lty96,lty93,lty95,lty54,lty38,lty31, lenv_mem, none1]
    refine hQ _ _ _ _ v (by simp) ?_ hR
    simp +decide -implicitDefEqProofs only [stp,code_seq,evWanted,evOp,val,absV,evBin,evConv,evBuiltin,cmpInt,vals,partsOf,isAggD,cellsOf,isAggV,Nat.reduceEqDiff,Nat.reduceLT,Nat.reduceBEq,Nat.reduceBNe,reduceCtorEq,if_true,if_false,reduceIte,forall_const,IntKind.bits,IntKind.signed,eq_self_iff_true,finalOf,resultOf,cellsGood,AC.isCell,senv_mem,lift, Tryz.f41]
  by_cases k7 : kind = 7
  · subst k7
    refine call_mono (leaf7_ok (NM := NM) (M := kn g M) hxS hcs0 hwf0 ha hs0) fun v d1 n1 hR hl1 hle1 hok1 => ?_
    have hR := hR.widen hAD (show n ≤ n + 2 by omega)
    simp +decide -implicitDefEqProofs only [stp,code_seq,evWanted,evOp,val,absV,evBin,evConv,evBuiltin,cmpInt,vals,partsOf,isAggD,cellsOf,isAggV,Nat.reduceEqDiff,Nat.reduceLT,Nat.reduceBEq,Nat.reduceBNe,reduceCtorEq,if_true,if_false,reduceIte,forall_const,IntKind.bits,IntKind.signed,eq_self_iff_true,finalOf,resultOf,cellsGood,AC.isCell,senv_mem,lift, lty3,lty4,lty5,lty9,lty22,lty33,lty25,lty34,lty23,lty36,lty40,lty98,lty96,lty93,lty95,lty54,lty38,lty31, lenv_mem, none1]
    refine hQ _ _ _ _ v (by simp) ?_ hR
    simp +decide -implicitDefEqProofs only [stp,code_seq,evWanted,evOp,val,absV,evBin,evConv,evBuiltin,cmpInt,vals,partsOf,isAggD,cellsOf,isAggV,Nat.reduceEqDiff,Nat.reduceLT,Nat.reduceBEq,Nat.reduceBNe,reduceCtorEq,if_true,if_false,reduceIte,forall_const,IntKind.bits,IntKind.signed,eq_self_iff_true,finalOf,resultOf,cellsGood,AC.isCell,senv_mem,lift, Tryz.f41]
  refine call_mono (leaf0_ok (NM := NM) (M := kn g M) k1 k2 k3 k4 k5 k6 k7 hxS hcs0 hwf0 ha hs0) fun v d1 n1 hR hl1 hle1 hok1 => ?_
  have hR := hR.widen hAD (show n ≤ n + 2 by omega)
  simp +decide -implicitDefEqProofs only [stp,code_seq,evWanted,evOp,val,absV,evBin,evConv,evBuiltin,cmpInt,vals,partsOf,isAggD,cellsOf,isAggV,Nat.reduceEqDiff,Nat.reduceLT,Nat.reduceBEq,Nat.reduceBNe,reduceCtorEq,if_true,if_false,reduceIte,forall_const,IntKind.bits,IntKind.signed,eq_self_iff_true,finalOf,resultOf,cellsGood,AC.isCell,senv_mem,lift, lty3,lty4,lty5,lty9,lty22,lty33,lty25,lty34,lty23,lty36,lty40,lty98,lty96,lty93,lty95,lty54,lty38,lty31, lenv_mem, none1]
  refine hQ _ _ _ _ v (by simp) ?_ hR
  simp +decide -implicitDefEqProofs only [stp,code_seq,evWanted,evOp,val,absV,evBin,evConv,evBuiltin,cmpInt,vals,partsOf,isAggD,cellsOf,isAggV,Nat.reduceEqDiff,Nat.reduceLT,Nat.reduceBEq,Nat.reduceBNe,reduceCtorEq,if_true,if_false,reduceIte,forall_const,IntKind.bits,IntKind.signed,eq_self_iff_true,finalOf,resultOf,cellsGood,AC.isCell,senv_mem,lift, Tryz.f41]

end Go.Proofs.YtdpielghjaehbaaGreat.Ev
