/- regletref06.Ends: the walk. -/
import Derived.Test.YtdpielghjaehbaaGreatRk
set_option linter.unusedSectionVars false
set_option linter.unusedSimpArgs false
set_option linter.unusedVariables false
namespace Go.Proofs.YtdpielghjaehbaaGreat.Ev
open Go.RowKit

def noMarks (L : Nat) : List Bool := List.replicate (L + 1) false

def upF (f : Nat → Nat) (k v : Nat) : Nat → Nat := fun a => if a = k then v else f a
theorem upF_eq {f : Nat → Nat} {k v : Nat} : upF f k v k = v := if_pos rfl
theorem upF_ne {f : Nat → Nat} {k v a : Nat} (h : a ≠ k) : upF f k v a = f a := if_neg h

theorem setM_self {M : Nat → Nat → List Bool} {i a : Nat} : setM M i a (M i a) = M := by
  funext i' a'
  unfold setM
  split
  · rename_i h; rw [h.1, h.2]
  · rfl

/-- The places of marks, as numbers. -/
def posL (bs : List Bool) (i : Nat) : List Int := ((List.range i).filter fun x => bs[x]? == some true).map fun (p : Nat) => (p : Int)

theorem posL_succ {bs : List Bool} {i : Nat} {b : Bool} (h : bs[i]? = some b) : posL bs (i + 1) = posL bs i ++ (if b = true then [(i : Int)] else []) := by
  unfold posL
  rw [List.range_succ, List.filter_append, List.map_append]
  congr 1
  cases b <;> simp [h]

theorem posL_len (bs : List Bool) (i : Nat) : (posL bs i).length ≤ i := by
  unfold posL
  rw [List.length_map]
  refine Nat.le_trans (List.length_filter_le _ _) ?_
  simp

theorem posL_ends {g : List Ru} {s name : List UInt8} {utf : Bool} {bs : List Bool} (hl : bs.length = s.length + 1) (h : ∀ x, bs[x]? = some true ↔ Der g s utf name 0 x) : EndsAre g s name utf (posL bs (s.length + 1)) := by
  constructor
  · unfold posL
    rw [List.pairwise_map]
    refine (List.Pairwise.filter _ List.pairwise_lt_range).imp ?_
    intro a b hab
    omega
  · intro x
    simp only [posL, List.mem_map, List.mem_filter, List.mem_range, beq_iff_eq]
    constructor
    · rintro ⟨p, ⟨_, h1⟩, rfl⟩
      exact ⟨p, (h p).1 h1, rfl⟩
    · rintro ⟨p, h1, rfl⟩
      have h2 := (h p).2 h1
      have := (List.getElem?_eq_some_iff.1 h2).1
      exact ⟨p, ⟨by omega, h2⟩, rfl⟩

theorem sound_set {g : List Ru} {s : List UInt8} {utf : Bool} {M : Nat → Nat → List Bool} {i a : Nat} {C : List Bool} {r : Ru} (h : Sound g s utf M) (hr : g[i]? = some r) (hC : ∀ x, C[x]? = some true → den s utf (kn g M) r.ex a x) : Sound g s utf (setM M i a (orL (M i a) C)) := by
  intro i' a' x hx
  unfold setM at hx
  split at hx
  · rename_i he
    obtain ⟨rfl, rfl⟩ := he
    rw [orL_get] at hx
    cases h1 : (M i' a')[x]? with
    | none => rw [h1] at hx; cases hx
    | some b1 =>
      cases h2 : C[x]? with
      | none => rw [h1, h2] at hx; cases hx
      | some b2 =>
        rw [h1, h2] at hx
        simp only [Option.some.injEq] at hx
        cases b1 with
        | true => exact h i' a' x h1
        | false =>
          cases b2 with
          | false => cases hx
          | true => exact ⟨r, hr, den_mono (kn_der h) _ _ _ (hC x h2)⟩
  · exact h i' a' x hx

/-- A row of marks that is being made. -/
def RowIn (d : Seg) (lo : Nat) (v : AV) (k L : Nat) (ms : Nat → Nat) : Prop :=
  ((k = 0 ∧ v = .c .sl0) ∨ ∃ jr cs, lo ≤ jr ∧ v = .c (.sl jr k) ∧ get [d] jr = some (.cells 98 cs) ∧ cs.length = k ∧ ∀ a, a < k → cs[a]? = some (.sl (ms a) (L + 1))) ∧
  (∀ a, a < k → lo ≤ ms a ∧ get [d] (ms a) = some (.cells 4 (mksC (noMarks L)))) ∧ ∀ a b, a < k → b < k → ms a = ms b → a = b

theorem Tab.set {d d' : Seg} {T : AC} {G L : Nat} {row : Nat → Nat} {mk : Nat → Nat → Nat} {M : Nat → Nat → List Bool} {i a : Nat} {B : List Bool} (h : Tab d T G L row mk M) (hi : i < G) (ha : a ≤ L) (hk : ∀ j o, j ≠ mk i a → get [d] j = some o → get [d'] j = some o)
    (hn : get [d'] (mk i a) = some (.cells 4 (mksC B))) (hl : B.length = L + 1) : Tab d' T G L row mk (setM M i a B) where
  top := by
    rcases h.top with h1 | ⟨t, cs, h1, h2, h3⟩
    · exact .inl h1
    · refine .inr ⟨t, cs, h1, hk t _ (fun e => ?_) h2, h3⟩
      rw [e, (h.mks i a hi ha).1] at h2
      simp at h2
  rows i' hi' := by
    obtain ⟨cs, h1, h2⟩ := h.rows i' hi'
    refine ⟨cs, hk _ _ (fun e => ?_) h1, h2⟩
    rw [e, (h.mks i a hi ha).1] at h1
    simp at h1
  mks i' a' hi' ha' := by
    unfold setM
    by_cases e : i' = i ∧ a' = a
    · rw [if_pos e, e.1, e.2]; exact ⟨hn, hl⟩
    · rw [if_neg e]
      obtain ⟨h1, h2⟩ := h.mks i' a' hi' ha'
      exact ⟨hk _ _ (fun e2 => e (h.inj i' a' i a hi' ha' hi ha e2)) h1, h2⟩
  inj := h.inj

def upG (f : Nat → Nat → Nat) (k : Nat) (v : Nat → Nat) : Nat → Nat → Nat := fun i a => if i = k then v a else f i a
theorem upG_eq {f : Nat → Nat → Nat} {k a : Nat} {v : Nat → Nat} : upG f k v k a = v a := if_pos rfl
theorem upG_ne {f : Nat → Nat → Nat} {k i a : Nat} {v : Nat → Nat} (h : i ≠ k) : upG f k v i a = f i a := if_neg h

theorem Tab.grow {d1 d' : Seg} {T : AC} {i L t' jr : Nat} {row : Nat → Nat} {mk : Nat → Nat → Nat} {M : Nat → Nat → List Bool} {tc rc : List AC} {ms : Nat → Nat} (h : Tab d1 T i L row mk M) (htl : tc.length = i) (htc : ∀ i', i' < i → tc[i']? = some (.sl (row i') (L + 1)))
    (hrows : ∀ i' o, i' < i → get [d1] (row i') = some o → get [d'] (row i') = some o) (hmks : ∀ i' a o, i' < i → a ≤ L → get [d1] (mk i' a) = some o → get [d'] (mk i' a) = some o)
    (ht : get [d'] t' = some (.cells 96 (tc ++ [.sl jr (L + 1)]))) (hr : get [d'] jr = some (.cells 98 rc)) (hrc : ∀ a, a ≤ L → rc[a]? = some (.sl (ms a) (L + 1)))
    (hms : ∀ a, a ≤ L → get [d'] (ms a) = some (.cells 4 (mksC (M i a))) ∧ (M i a).length = L + 1) (hinj : ∀ a b, a ≤ L → b ≤ L → ms a = ms b → a = b) (hsep : ∀ i' a b, i' < i → a ≤ L → b ≤ L → mk i' a ≠ ms b) :
    Tab d' (.sl t' (i + 1)) (i + 1) L (upF row i jr) (upG mk i ms) M where
  top := .inr ⟨t', _, rfl, ht, fun i' hi' => by
    by_cases e : i' = i
    · rw [e, upF_eq, List.getElem?_append_right (by omega), htl, Nat.sub_self]; rfl
    · rw [upF_ne e, List.getElem?_append_left (by omega)]
      exact htc i' (by omega), by simp [htl]⟩
  rows i' hi' := by
    by_cases e : i' = i
    · rw [e, upF_eq]
      exact ⟨rc, hr, fun a ha => by rw [upG_eq]; exact hrc a ha⟩
    · rw [upF_ne e]
      obtain ⟨cs, h1, h2⟩ := h.rows i' (by omega)
      exact ⟨cs, hrows i' _ (by omega) h1, fun a ha => by rw [upG_ne e]; exact h2 a ha⟩
  mks i' a hi' ha := by
    by_cases e : i' = i
    · rw [e, upG_eq]; exact hms a ha
    · rw [upG_ne e]
      obtain ⟨h1, h2⟩ := h.mks i' a (by omega) ha
      exact ⟨hmks i' a _ (by omega) ha h1, h2⟩
  inj i1 a1 i2 a2 h1 h2 h3 h4 he := by
    by_cases e1 : i1 = i <;> by_cases e2 : i2 = i
    · rw [e1, e2, upG_eq, upG_eq] at he
      exact ⟨by omega, hinj a1 a2 h2 h4 he⟩
    · rw [e1, upG_eq, upG_ne e2] at he
      exact absurd he.symm (hsep i2 a2 a1 (by omega) h4 h2)
    · rw [e2, upG_eq, upG_ne e1] at he
      exact absurd he (hsep i1 a1 a2 (by omega) h2 h4)
    · rw [upG_ne e1, upG_ne e2] at he
      exact h.inj i1 a1 i2 a2 (by omega) h2 (by omega) h4 he

set_option maxRecDepth 20000 in
set_option maxHeartbeats 8000000 in
theorem refEnds_ok {w0 : World} {Bx B0 : Nat} {v0 : Value} {g : List Ru} {name s : List UInt8} {utf : Bool} {NM : List (List UInt8)} {d : Seg} {n : Nat} (hv : RulesAt w0 Bx v0 g) (hgl : g.length < 1000) (hwf : ∀ r ∈ g, wfEx NM r.ex = true) (hs0 : s.length < 1000) :
    CallsA Tryz.prog (lenv (memOf w0)) B0 17 [.c (lift v0), .c (.str name), .c (.str s), .c (.bool utf)] d n fun v d' n' => ∃ l, EndsAre g s name utf l ∧ IntRow d' n v l ∧ Adds n d d' := by
  refine callsA_code lenv_ok none1_ok Tryz.func17 rfl (by decide) rfl rfl (by simp) fun hl _ Q hQ => ?_
  obtain ⟨G, hG⟩ : ∃ G, lift v0 = G := ⟨_, rfl⟩
  have hfind := fun d n => find5_ok (B0 := B0) (d := d) (n := n) (name := name) hv (show g.length < 100000 by omega)
  have hends := fun (e : Ex) => endsR_ok (utf := utf) (NM := NM) hv (show g.length < 100000 by omega) hs0 e
  have hGc : (G = .sl0 ∧ g = []) ∨ ∃ b cap, G = .raw (.slice (some ⟨b, 0, none⟩) g.length cap) ∧ ∀ i r, g[i]? = some r → ∃ cs, memCells (lenv (memOf w0)) b (i * 7 + 1) 6 = some (cs.map lift) ∧ ExAt w0 Bx r.ex cs := by
    rcases hv with ⟨rfl, rfl⟩ | ⟨b, cap, _, rfl, hrs⟩
    · exact .inl ⟨hG.symm, rfl⟩
    · refine .inr ⟨b, cap, hG.symm.trans rfl, fun i r hr => ?_⟩
      obtain ⟨cs, c1, c2, c3⟩ := RuAt.get g b 0 i r hrs hr
      rw [Nat.zero_add] at c2
      have h6 := exAt_six c3
      have hm := memCells_of (mem := memOf w0) (b := b) cs (i * 7 + 1) (fun j v hj => c2 j v hj)
      rw [h6.1] at hm
      exact ⟨cs, (memCells_l _ _).trans hm, c3⟩
  unfold EndsR at hends
  rw [hG] at hfind hends ⊢
  have hw1 : IntKind.i64.wrap ((s.length : Int) + 1) = ((s.length + 1 : Nat) : Int) := wrap_succ (by omega)
  have hp0 : (0 : Int) ≤ ((s.length + 1 : Nat) : Int) := by omega
  have hp1 : ((s.length + 1 : Nat) : Int) ≤ 100000 := by omega
  simp +decide -implicitDefEqProofs only [stp,code_seq,evWanted,evOp,val,absV,evBin,evConv,evBuiltin,cmpInt,vals,partsOf,isAggD,cellsOf,isAggV,Nat.reduceEqDiff,Nat.reduceLT,Nat.reduceBEq,Nat.reduceBNe,reduceCtorEq,if_true,if_false,reduceIte,forall_const,IntKind.bits,IntKind.signed,eq_self_iff_true,finalOf,resultOf,cellsGood,AC.isCell,senv_mem,lift, spliceAll,allFields,places,splice,List.take_zero,List.take_succ_cons,List.take_nil,List.drop_zero,List.drop_succ_cons,List.drop_nil,List.nil_append,List.append_nil,List.cons_append,List.all_cons,List.all_nil,Option.isSome_some,Nat.reduceAdd,Nat.reduceSub,Nat.reduceMul,Nat.reduceMod,Nat.reduceLeDiff,List.range,List.range.loop,List.map_cons,List.map_nil,pfind, Tryz.f17, lty3,lty4,lty5,lty9,lty22,lty33,lty25,lty34,lty23,lty36,lty40,lty98,lty96,lty93,lty95,lty54,lty38,lty31, lenv_mem, none1, -code_seq]
  rw [code_seq]
  simp +decide -implicitDefEqProofs only [stp,code_seq,evWanted,evOp,val,absV,evBin,evConv,evBuiltin,cmpInt,vals,partsOf,isAggD,cellsOf,isAggV,Nat.reduceEqDiff,Nat.reduceLT,Nat.reduceBEq,Nat.reduceBNe,reduceCtorEq,if_true,if_false,reduceIte,forall_const,IntKind.bits,IntKind.signed,eq_self_iff_true,finalOf,resultOf,cellsGood,AC.isCell,senv_mem,lift, spliceAll,allFields,places,splice,List.take_zero,List.take_succ_cons,List.take_nil,List.drop_zero,List.drop_succ_cons,List.drop_nil,List.nil_append,List.append_nil,List.cons_append,List.all_cons,List.all_nil,Option.isSome_some,Nat.reduceAdd,Nat.reduceSub,Nat.reduceMul,Nat.reduceMod,Nat.reduceLeDiff,List.range,List.range.loop,List.map_cons,List.map_nil,pfind, lty3,lty4,lty5,lty9,lty22,lty33,lty25,lty34,lty23,lty36,lty40,lty98,lty96,lty93,lty95,lty54,lty38,lty31, lenv_mem, none1, -code_seq]
  rw [code_seq]
  refine code_cutR (fun sl d' n' => sl.nt = 115 ∧ d' = (n, some (.cells 95 [G, .str s, .bool utf, .sl0])) :: d ∧ n' = n + 1 ∧ sl.get 0 = .c G ∧ sl.get 1 = .c (.str name) ∧ sl.get 2 = .c (.str s) ∧ sl.get 9 = .c (.ptr n 0)) ?_ ?_
  · intro Q1 hQ1
    rcases hGc with ⟨rfl, _⟩ | ⟨b, cap, rfl, _⟩
    · simp +decide -implicitDefEqProofs only [stp,code_seq,evWanted,evOp,val,absV,evBin,evConv,evBuiltin,cmpInt,vals,partsOf,isAggD,cellsOf,isAggV,Nat.reduceEqDiff,Nat.reduceLT,Nat.reduceBEq,Nat.reduceBNe,reduceCtorEq,if_true,if_false,reduceIte,forall_const,IntKind.bits,IntKind.signed,eq_self_iff_true,finalOf,resultOf,cellsGood,AC.isCell,senv_mem,lift, spliceAll,allFields,places,splice,List.take_zero,List.take_succ_cons,List.take_nil,List.drop_zero,List.drop_succ_cons,List.drop_nil,List.nil_append,List.append_nil,List.cons_append,List.all_cons,List.all_nil,Option.isSome_some,Nat.reduceAdd,Nat.reduceSub,Nat.reduceMul,Nat.reduceMod,Nat.reduceLeDiff,List.range,List.range.loop,List.map_cons,List.map_nil,pfind, lty3,lty4,lty5,lty9,lty22,lty33,lty25,lty34,lty23,lty36,lty40,lty98,lty96,lty93,lty95,lty54,lty38,lty31, lenv_mem, none1, allFields]
      refine hQ1 _ _ _ ⟨by first | rfl | simp only [nt_put], rfl, rfl, ?_⟩
      simp +decide -implicitDefEqProofs only [stp,code_seq,evWanted,evOp,val,absV,evBin,evConv,evBuiltin,cmpInt,vals,partsOf,isAggD,cellsOf,isAggV,Nat.reduceEqDiff,Nat.reduceLT,Nat.reduceBEq,Nat.reduceBNe,reduceCtorEq,if_true,if_false,reduceIte,forall_const,IntKind.bits,IntKind.signed,eq_self_iff_true,finalOf,resultOf,cellsGood,AC.isCell,senv_mem,lift]
    · have hoc : (Value.slice (some ⟨b, 0, none⟩) g.length cap).oneCell' = true := rfl
      simp +decide -implicitDefEqProofs only [stp,code_seq,evWanted,evOp,val,absV,evBin,evConv,evBuiltin,cmpInt,vals,partsOf,isAggD,cellsOf,isAggV,Nat.reduceEqDiff,Nat.reduceLT,Nat.reduceBEq,Nat.reduceBNe,reduceCtorEq,if_true,if_false,reduceIte,forall_const,IntKind.bits,IntKind.signed,eq_self_iff_true,finalOf,resultOf,cellsGood,AC.isCell,senv_mem,lift, spliceAll,allFields,places,splice,List.take_zero,List.take_succ_cons,List.take_nil,List.drop_zero,List.drop_succ_cons,List.drop_nil,List.nil_append,List.append_nil,List.cons_append,List.all_cons,List.all_nil,Option.isSome_some,Nat.reduceAdd,Nat.reduceSub,Nat.reduceMul,Nat.reduceMod,Nat.reduceLeDiff,List.range,List.range.loop,List.map_cons,List.map_nil,pfind, lty3,lty4,lty5,lty9,lty22,lty33,lty25,lty34,lty23,lty36,lty40,lty98,lty96,lty93,lty95,lty54,lty38,lty31, lenv_mem, none1, hoc]
      refine hQ1 _ _ _ ⟨by first | rfl | simp only [nt_put], rfl, rfl, ?_⟩
      simp +decide -implicitDefEqProofs only [stp,code_seq,evWanted,evOp,val,absV,evBin,evConv,evBuiltin,cmpInt,vals,partsOf,isAggD,cellsOf,isAggV,Nat.reduceEqDiff,Nat.reduceLT,Nat.reduceBEq,Nat.reduceBNe,reduceCtorEq,if_true,if_false,reduceIte,forall_const,IntKind.bits,IntKind.signed,eq_self_iff_true,finalOf,resultOf,cellsGood,AC.isCell,senv_mem,lift]
  rintro S _ _ ⟨hnt, rfl, rfl, g0, g1, g2, g9⟩
  rw [code_seq]
  refine code_cutR (fun sl d' n' => sl.nt = 115 ∧ Adds n d d' ∧ n + 1 ≤ n' ∧ Live d' n' ∧ sl.get 0 = .c G ∧ sl.get 1 = .c (.str name) ∧ sl.get 2 = .c (.str s) ∧ sl.get 9 = .c (.ptr n 0) ∧ ∃ (T : AC) (row : Nat → Nat) (mk : Nat → Nat → Nat), SR d' n G s utf T ∧ Tab d' T g.length s.length row mk (fun _ _ => noMarks s.length) ∧ ∀ i a, i < g.length → a ≤ s.length → n + 1 ≤ mk i a) ?_ ?_
  · intro Q1 hQ1
    simp +decide -implicitDefEqProofs only [stp,code_seq,evWanted,evOp,val,absV,evBin,evConv,evBuiltin,cmpInt,vals,partsOf,isAggD,cellsOf,isAggV,Nat.reduceEqDiff,Nat.reduceLT,Nat.reduceBEq,Nat.reduceBNe,reduceCtorEq,if_true,if_false,reduceIte,forall_const,IntKind.bits,IntKind.signed,eq_self_iff_true,finalOf,resultOf,cellsGood,AC.isCell,senv_mem,lift, spliceAll,allFields,places,splice,List.take_zero,List.take_succ_cons,List.take_nil,List.drop_zero,List.drop_succ_cons,List.drop_nil,List.nil_append,List.append_nil,List.cons_append,List.all_cons,List.all_nil,Option.isSome_some,Nat.reduceAdd,Nat.reduceSub,Nat.reduceMul,Nat.reduceMod,Nat.reduceLeDiff,List.range,List.range.loop,List.map_cons,List.map_nil,pfind, lty3,lty4,lty5,lty9,lty22,lty33,lty25,lty34,lty23,lty36,lty40,lty98,lty96,lty93,lty95,lty54,lty38,lty31, lenv_mem, none1, hnt, g0, g1, g2, g9]
    refine code_loop lenv_ok none1_ok (fun q sl d' n' => sl.nt = 115 ∧ Adds n d d' ∧ n + 1 ≤ n' ∧ sl.get 0 = .c G ∧ sl.get 1 = .c (.str name) ∧ sl.get 2 = .c (.str s) ∧ sl.get 9 = .c (.ptr n 0) ∧ ∃ (i : Nat) (T : AC) (row : Nat → Nat) (mk : Nat → Nat → Nat), i + q = g.length ∧ sl.get 10 = .c (.int .i64 i) ∧ SR d' n G s utf T ∧ Tab d' T i s.length row mk (fun _ _ => noMarks s.length) ∧ (∀ i' a, i' < i → a ≤ s.length → n + 1 ≤ mk i' a) ∧ ∀ t m, T = .sl t m → n + 1 ≤ t) g.length ?_ ?_
    · refine ⟨by simp only [nt_put, hnt], (Adds.refl n d).cons (Nat.le_refl _), Nat.le_refl _, ?_⟩
      simp +decide -implicitDefEqProofs only [stp,code_seq,evWanted,evOp,val,absV,evBin,evConv,evBuiltin,cmpInt,vals,partsOf,isAggD,cellsOf,isAggV,Nat.reduceEqDiff,Nat.reduceLT,Nat.reduceBEq,Nat.reduceBNe,reduceCtorEq,if_true,if_false,reduceIte,forall_const,IntKind.bits,IntKind.signed,eq_self_iff_true,finalOf,resultOf,cellsGood,AC.isCell,senv_mem,lift, hnt, g0, g1, g2, g9]
      exact ⟨0, .sl0, id, fun _ _ => 0, by omega, rfl, by rw [SR, get_cons, if_pos rfl], ⟨.inl ⟨rfl, rfl⟩, by simp, by simp, by simp⟩, by simp, by simp⟩
    clear hnt g0 g1 g2 g9
    rintro q sl d1 n1 ⟨hnt, hA1, hn1, g0, g1, g2, g9, i, T, row, mk, hiq, g10, hSR, hTab, hmkn, hTn⟩ hl1 hs1 Q2 hO1 hO2
    by_cases h1 : (i : Int) < g.length
    · rcases hGc with ⟨_, rfl⟩ | ⟨b, cap, rfl, hrule⟩
      · simp at h1; omega
      simp +decide -implicitDefEqProofs only [stp,code_seq,evWanted,evOp,val,absV,evBin,evConv,evBuiltin,cmpInt,vals,partsOf,isAggD,cellsOf,isAggV,Nat.reduceEqDiff,Nat.reduceLT,Nat.reduceBEq,Nat.reduceBNe,reduceCtorEq,if_true,if_false,reduceIte,forall_const,IntKind.bits,IntKind.signed,eq_self_iff_true,finalOf,resultOf,cellsGood,AC.isCell,senv_mem,lift, lty3,lty4,lty5,lty9,lty22,lty33,lty25,lty34,lty23,lty36,lty40,lty98,lty96,lty93,lty95,lty54,lty38,lty31, lenv_mem, none1, hnt, g0, g1, g2, g9, g10, h1]
      refine code_loop lenv_ok none1_ok (fun q2 sl d' n' => sl.nt = 115 ∧ Adds n1 d1 d' ∧ n1 ≤ n' ∧ ∃ (k : Nat) (ms : Nat → Nat), k + q2 = s.length + 1 ∧ sl.get 0 = .c (.raw (.slice (some ⟨b, 0, none⟩) g.length cap)) ∧ sl.get 1 = .c (.str name) ∧ sl.get 2 = .c (.str s) ∧ sl.get 9 = .c (.ptr n 0) ∧ sl.get 10 = .c (.int .i64 i) ∧ sl.get 12 = .c (.int .i64 k) ∧ RowIn d' n1 (sl.get 11) k s.length ms) (s.length + 1) ?_ ?_
      · refine ⟨by simp only [nt_put, hnt], Adds.refl _ _, Nat.le_refl _, 0, fun _ => 0, by omega, ?_⟩
        simp +decide -implicitDefEqProofs only [stp,code_seq,evWanted,evOp,val,absV,evBin,evConv,evBuiltin,cmpInt,vals,partsOf,isAggD,cellsOf,isAggV,Nat.reduceEqDiff,Nat.reduceLT,Nat.reduceBEq,Nat.reduceBNe,reduceCtorEq,if_true,if_false,reduceIte,forall_const,IntKind.bits,IntKind.signed,eq_self_iff_true,finalOf,resultOf,cellsGood,AC.isCell,senv_mem,lift, hnt, g0, g1, g2, g9, g10]
        exact ⟨rfl, .inl ⟨rfl, rfl⟩, by simp, by simp⟩
      clear hnt g0 g1 g2 g9 g10
      rintro q2 sl d2 n3 ⟨hnt, hA2, hn3, k, ms, hkq, g0, g1, g2, g9, g10, g12, hrow, hms, hinj⟩ hl3 hs3 Q3 hP1 hP2
      by_cases h2 : (k : Int) ≤ s.length
      · rcases hrow with ⟨hk0, g11⟩ | ⟨jr, rc, hjr, g11, hgj, hrl, hrc⟩
        · have e4 : True := trivial
          have e5 : True := trivial
          have e6 : True := trivial
          have e7 : True := trivial
          have hgj : True := trivial
          have hz : ∀ a, a < k → ([] : List AC)[a]? = some (.sl (ms a) (s.length + 1)) := fun a ha => by omega
          have e8 : True := trivial
          simp +decide -implicitDefEqProofs only [stp,code_seq,evWanted,evOp,val,absV,evBin,evConv,evBuiltin,cmpInt,vals,partsOf,isAggD,cellsOf,isAggV,Nat.reduceEqDiff,Nat.reduceLT,Nat.reduceBEq,Nat.reduceBNe,reduceCtorEq,if_true,if_false,reduceIte,forall_const,IntKind.bits,IntKind.signed,eq_self_iff_true,finalOf,resultOf,cellsGood,AC.isCell,senv_mem,lift, spliceAll,allFields,places,splice,List.take_zero,List.take_succ_cons,List.take_nil,List.drop_zero,List.drop_succ_cons,List.drop_nil,List.nil_append,List.append_nil,List.cons_append,List.all_cons,List.all_nil,Option.isSome_some,Nat.reduceAdd,Nat.reduceSub,Nat.reduceMul,Nat.reduceMod,Nat.reduceLeDiff,List.range,List.range.loop,List.map_cons,List.map_nil,pfind, lty3,lty4,lty5,lty9,lty22,lty33,lty25,lty34,lty23,lty36,lty40,lty98,lty96,lty93,lty95,lty54,lty38,lty31, lenv_mem, none1, hnt, g0, g1, g2, g9, g10, g11, g12, h2, hw1, hp0, hp1, Int.toNat_natCast, rep_mks, evAppend, hgj, e4, e5, e6, e7, e8, Bool.or_self]
          refine hP1 (q2 - 1) _ _ _ (by omega) ⟨by simp only [nt_put, hnt], ?_, by omega, k + 1, upF ms k n3, by omega, ?_⟩
          · first
            | exact ((hA2.cons (by omega)).cons (by omega)).cons (by omega)
            | exact (((hA2.cons (by omega)).cons (by omega)).cons (by omega)).cons (by omega)
          simp +decide -implicitDefEqProofs only [stp,code_seq,evWanted,evOp,val,absV,evBin,evConv,evBuiltin,cmpInt,vals,partsOf,isAggD,cellsOf,isAggV,Nat.reduceEqDiff,Nat.reduceLT,Nat.reduceBEq,Nat.reduceBNe,reduceCtorEq,if_true,if_false,reduceIte,forall_const,IntKind.bits,IntKind.signed,eq_self_iff_true,finalOf,resultOf,cellsGood,AC.isCell,senv_mem,lift, hnt, g0, g1, g2, g9, g10]
          rw [wrap_succ (by omega)]
          refine ⟨rfl, .inr ⟨n3 + 2, ([] : List AC) ++ [AC.sl n3 (s.length + 1)], by omega, by first | rfl | simp [hk0], get_cons.trans (if_pos rfl), by simp [hk0], fun a ha => ?_⟩, fun a ha => ?_, fun a b ha hb hab => ?_⟩
          · by_cases hak : a = k
            · subst hak
              rw [upF_eq, List.getElem?_append_right (by simp [hk0])]
              simp [hk0]
            · rw [upF_ne hak, List.getElem?_append_left (by simp [hk0]; omega)]
              exact hz a (by omega)
          · by_cases hak : a = k
            · subst hak
              rw [upF_eq]
              refine ⟨hn3, ?_⟩
              simp only [get_cons, show ¬ n3 + 2 = n3 by omega, show ¬ n3 + 1 = n3 by omega, if_false, if_true, e8]
              rfl
            · rw [upF_ne hak]
              obtain ⟨r1, r2⟩ := hms a (by omega)
              refine ⟨r1, ?_⟩
              have := (hl3 (ms a) _ r2).1
              have w1 : ¬ n3 + 2 = ms a := by omega
              have w2 : ¬ n3 + 1 = ms a := by omega
              have w3 : ¬ n3 = ms a := by omega
              simp only [get_cons, w1, w2, w3, if_false, e8]
              exact r2
          · by_cases hak : a = k <;> by_cases hbk : b = k
            · omega
            · rw [hak, upF_eq, upF_ne hbk] at hab
              have := (hl3 (ms b) _ (hms b (by omega)).2).1
              omega
            · rw [hbk, upF_eq, upF_ne hak] at hab
              have := (hl3 (ms a) _ (hms a (by omega)).2).1
              omega
            · rw [upF_ne hak, upF_ne hbk] at hab
              exact hinj a b (by omega) (by omega) hab
        · have e4 : ¬ n3 + 1 = jr := by have := (hl3 jr _ hgj).1; omega
          have e5 : (jr == n3 + 1) = false := by simpa using fun e => e4 (Eq.symm e)
          have e6 : ¬ n3 = jr := by have := (hl3 jr _ hgj).1; omega
          have e7 : ¬ k > 100000 := by omega
          have e8 : ∀ a, a < k → ¬ jr = ms a := fun a ha e => by
            have := (hms a ha).2
            rw [← e, hgj] at this
            simp at this
          have e9 : ¬ jr = n3 := fun e => e6 e.symm
          simp +decide -implicitDefEqProofs only [stp,code_seq,evWanted,evOp,val,absV,evBin,evConv,evBuiltin,cmpInt,vals,partsOf,isAggD,cellsOf,isAggV,Nat.reduceEqDiff,Nat.reduceLT,Nat.reduceBEq,Nat.reduceBNe,reduceCtorEq,if_true,if_false,reduceIte,forall_const,IntKind.bits,IntKind.signed,eq_self_iff_true,finalOf,resultOf,cellsGood,AC.isCell,senv_mem,lift, spliceAll,allFields,places,splice,List.take_zero,List.take_succ_cons,List.take_nil,List.drop_zero,List.drop_succ_cons,List.drop_nil,List.nil_append,List.append_nil,List.cons_append,List.all_cons,List.all_nil,Option.isSome_some,Nat.reduceAdd,Nat.reduceSub,Nat.reduceMul,Nat.reduceMod,Nat.reduceLeDiff,List.range,List.range.loop,List.map_cons,List.map_nil,pfind, lty3,lty4,lty5,lty9,lty22,lty33,lty25,lty34,lty23,lty36,lty40,lty98,lty96,lty93,lty95,lty54,lty38,lty31, lenv_mem, none1, hnt, g0, g1, g2, g9, g10, g11, g12, h2, hw1, hp0, hp1, Int.toNat_natCast, rep_mks, evAppend, hgj, e4, e5, e6, e7, hrl, Bool.or_self]
          refine hP1 (q2 - 1) _ _ _ (by omega) ⟨by simp only [nt_put, hnt], ?_, by omega, k + 1, upF ms k n3, by omega, ?_⟩
          · first
            | exact ((hA2.cons (by omega)).cons (by omega)).cons (by omega)
            | exact (((hA2.cons (by omega)).cons (by omega)).cons (by omega)).cons (by omega)
          simp +decide -implicitDefEqProofs only [stp,code_seq,evWanted,evOp,val,absV,evBin,evConv,evBuiltin,cmpInt,vals,partsOf,isAggD,cellsOf,isAggV,Nat.reduceEqDiff,Nat.reduceLT,Nat.reduceBEq,Nat.reduceBNe,reduceCtorEq,if_true,if_false,reduceIte,forall_const,IntKind.bits,IntKind.signed,eq_self_iff_true,finalOf,resultOf,cellsGood,AC.isCell,senv_mem,lift, hnt, g0, g1, g2, g9, g10]
          rw [wrap_succ (by omega)]
          refine ⟨rfl, .inr ⟨n3 + 2, rc ++ [AC.sl n3 (s.length + 1)], by omega, by first | rfl | simp [hrl], get_cons.trans (if_pos rfl), by simp [hrl], fun a ha => ?_⟩, fun a ha => ?_, fun a b ha hb hab => ?_⟩
          · by_cases hak : a = k
            · subst hak
              rw [upF_eq, List.getElem?_append_right (by simp [hrl])]
              simp [hrl]
            · rw [upF_ne hak, List.getElem?_append_left (by simp [hrl]; omega)]
              exact hrc a (by omega)
          · by_cases hak : a = k
            · subst hak
              rw [upF_eq]
              refine ⟨hn3, ?_⟩
              simp only [get_cons, show ¬ n3 + 2 = n3 by omega, show ¬ n3 + 1 = n3 by omega, if_false, if_true, e9]
              rfl
            · rw [upF_ne hak]
              obtain ⟨r1, r2⟩ := hms a (by omega)
              refine ⟨r1, ?_⟩
              have := (hl3 (ms a) _ r2).1
              have w1 : ¬ n3 + 2 = ms a := by omega
              have w2 : ¬ n3 + 1 = ms a := by omega
              have w3 : ¬ n3 = ms a := by omega
              simp only [get_cons, w1, w2, w3, if_false, (e8 a (by omega))]
              exact r2
          · by_cases hak : a = k <;> by_cases hbk : b = k
            · omega
            · rw [hak, upF_eq, upF_ne hbk] at hab
              have := (hl3 (ms b) _ (hms b (by omega)).2).1
              omega
            · rw [hbk, upF_eq, upF_ne hak] at hab
              have := (hl3 (ms a) _ (hms a (by omega)).2).1
              omega
            · rw [upF_ne hak, upF_ne hbk] at hab
              exact hinj a b (by omega) (by omega) hab
      · have hk1 : k = s.length + 1 := by omega
        rcases hrow with ⟨hk0, _⟩ | ⟨jr, rc, hjr, g11, hgj, hrl, hrc⟩
        · omega
        have hSR3 := (hA2.keeps n (by omega)).trans hSR
        have hk2 : ∀ j o, get [d1] j = some o → get [d2] j = some o := fun j o h => (hA2.keeps j (hl1 j o h).1).trans h
        have e1 : ¬ n3 = n := by omega
        have e7 : ¬ n3 + 1 = n := by omega
        simp +decide -implicitDefEqProofs only [stp,code_seq,evWanted,evOp,val,absV,evBin,evConv,evBuiltin,cmpInt,vals,partsOf,isAggD,cellsOf,isAggV,Nat.reduceEqDiff,Nat.reduceLT,Nat.reduceBEq,Nat.reduceBNe,reduceCtorEq,if_true,if_false,reduceIte,forall_const,IntKind.bits,IntKind.signed,eq_self_iff_true,finalOf,resultOf,cellsGood,AC.isCell,senv_mem,lift, spliceAll,allFields,places,splice,List.take_zero,List.take_succ_cons,List.take_nil,List.drop_zero,List.drop_succ_cons,List.drop_nil,List.nil_append,List.append_nil,List.cons_append,List.all_cons,List.all_nil,Option.isSome_some,Nat.reduceAdd,Nat.reduceSub,Nat.reduceMul,Nat.reduceMod,Nat.reduceLeDiff,List.range,List.range.loop,List.map_cons,List.map_nil,pfind, lty3,lty4,lty5,lty9,lty22,lty33,lty25,lty34,lty23,lty36,lty40,lty98,lty96,lty93,lty95,lty54,lty38,lty31, lenv_mem, none1, hnt, g0, g1, g2, g9, g10, g11, g12, h2]
        refine hP2 _ _ _ _ (by simp) ?_
        rw [hk1] at g11
        rcases hTab.top with ⟨hi0, rfl⟩ | ⟨t, tc, rfl, ht1, htc, htl⟩
        · obtain ⟨tc, htce⟩ : ∃ tc : List AC, tc = [] := ⟨_, rfl⟩
          have htl : tc.length = i := by rw [htce, hi0]; rfl
          have htc : ∀ i', i' < i → tc[i']? = some (.sl (row i') (s.length + 1)) := fun i' hi' => by omega
          have hne1 : ∀ i', i' < i → True := fun _ _ => trivial
          have hne2 : ∀ i' a, i' < i → a ≤ s.length → True := fun _ _ _ _ => trivial
          have hne3 : True := trivial
          have hne4 : ∀ a, a < k → True := fun _ _ => trivial
          have e2 : True := trivial
          have e3 : True := trivial
          have e4 : True := trivial
          have e5 : True := trivial
          have e6 : True := trivial
          have e8 : True := trivial
          subst htce
          simp +decide -implicitDefEqProofs only [stp,code_seq,evWanted,evOp,val,absV,evBin,evConv,evBuiltin,cmpInt,vals,partsOf,isAggD,cellsOf,isAggV,Nat.reduceEqDiff,Nat.reduceLT,Nat.reduceBEq,Nat.reduceBNe,reduceCtorEq,if_true,if_false,reduceIte,forall_const,IntKind.bits,IntKind.signed,eq_self_iff_true,finalOf,resultOf,cellsGood,AC.isCell,senv_mem,lift, spliceAll,allFields,places,splice,List.take_zero,List.take_succ_cons,List.take_nil,List.drop_zero,List.drop_succ_cons,List.drop_nil,List.nil_append,List.append_nil,List.cons_append,List.all_cons,List.all_nil,Option.isSome_some,Nat.reduceAdd,Nat.reduceSub,Nat.reduceMul,Nat.reduceMod,Nat.reduceLeDiff,List.range,List.range.loop,List.map_cons,List.map_nil,pfind, lty3,lty4,lty5,lty9,lty22,lty33,lty25,lty34,lty23,lty36,lty40,lty98,lty96,lty93,lty95,lty54,lty38,lty31, lenv_mem, none1, hnt, g0, g1, g2, g9, g10, g11, hSR3, evAppend, e1, e2, e3, e4, e5, e6, e7, e8, Bool.or_self, Bool.true_or]
          refine hO1 (q - 1) _ _ _ (by omega) ⟨by simp only [nt_put, hnt], ?_, by omega, ?_⟩
          · first
            | exact (((hA1.trans hA2 (by omega)).cons (by omega)).cons (by omega)).cons (Nat.le_refl _)
            | exact ((((hA1.trans hA2 (by omega)).cons (by omega)).cons (by omega)).cons (by omega)).cons (Nat.le_refl _)
          simp +decide -implicitDefEqProofs only [stp,code_seq,evWanted,evOp,val,absV,evBin,evConv,evBuiltin,cmpInt,vals,partsOf,isAggD,cellsOf,isAggV,Nat.reduceEqDiff,Nat.reduceLT,Nat.reduceBEq,Nat.reduceBNe,reduceCtorEq,if_true,if_false,reduceIte,forall_const,IntKind.bits,IntKind.signed,eq_self_iff_true,finalOf,resultOf,cellsGood,AC.isCell,senv_mem,lift, hnt, g0, g1, g2, g9]
          rw [wrap_succ (by omega)]
          refine ⟨i + 1, .sl (n3 + 1) (i + 1), upF row i jr, upG mk i ms, by omega, rfl, ?_, hTab.grow htl htc ?_ ?_ ?_ ?_ (fun a ha => hrc a (by omega)) (fun a ha => ⟨?_, by simp [noMarks]⟩) (fun a b ha hb => hinj a b (by omega) (by omega)) ?_, ?_, ?_⟩
          · first
            | (rw [SR, get_cons, if_pos rfl]; done)
            | (rw [SR, get_cons, if_pos rfl]; simp [hi0])
          · intro i' o hi' ho
            have w := (hl1 _ _ ho).1
            have w1 : ¬ n = row i' := fun e => by
              obtain ⟨cs, q1, _⟩ := hTab.rows i' hi'
              rw [← e, hSR] at q1
              simp at q1
            have w2 := hne1 i' hi'
            have w3 : ¬ n3 + 1 = row i' := by omega
            have w4 : ¬ n3 = row i' := by omega
            simp only [get_cons, w1, w3, w4, w2, if_false]
            exact hk2 _ _ ho
          · intro i' a o hi' ha ho
            have w := (hl1 _ _ ho).1
            have w1 : ¬ n = mk i' a := by have := hmkn i' a hi' ha; omega
            have w2 := hne2 i' a hi' ha
            have w3 : ¬ n3 + 1 = mk i' a := by omega
            have w4 : ¬ n3 = mk i' a := by omega
            simp only [get_cons, w1, w3, w4, w2, if_false]
            exact hk2 _ _ ho
          · have w1 : ¬ n = n3 + 1 := by omega
            first
            | (rw [get_cons, if_neg w1, get_cons, if_pos rfl]; done)
            | (rw [get_cons, if_neg w1, get_cons, if_pos rfl]; rfl)
          · have w := (hl3 _ _ hgj).1
            have w1 : ¬ n = jr := by omega
            have w3 : ¬ n3 + 1 = jr := by omega
            have w4 : ¬ n3 = jr := by omega
            simp only [get_cons, w1, w3, w4, hne3, if_false]
            exact hgj
          · obtain ⟨r1, r2⟩ := hms a (by omega)
            have w := (hl3 _ _ r2).1
            have w1 : ¬ n = ms a := by omega
            have w3 : ¬ n3 + 1 = ms a := by omega
            have w4 : ¬ n3 = ms a := by omega
            have w5 := hne4 a (by omega)
            simp only [get_cons, w1, w3, w4, w5, if_false]
            exact r2
          · intro i' a b hi' ha hb e
            have w := (hl1 _ _ (hTab.mks i' a hi' ha).1).1
            have := (hms b (by omega)).1
            omega
          · intro i' a hi' ha
            by_cases e : i' = i
            · rw [e, upG_eq]
              have := (hms a (by omega)).1
              omega
            · rw [upG_ne e]; exact hmkn i' a (by omega) ha
          · intro t m h
            simp only [AC.sl.injEq] at h
            omega
        · have htn := (hl1 t _ ht1).1
          have htnn := hTn t i rfl
          have hne1 : ∀ i', i' < i → ¬ t = row i' := fun i' hi' e => by
            obtain ⟨cs, q1, _⟩ := hTab.rows i' hi'
            rw [← e, ht1] at q1
            simp at q1
          have hne2 : ∀ i' a, i' < i → a ≤ s.length → ¬ t = mk i' a := fun i' a hi' ha e => by
            have q1 := (hTab.mks i' a hi' ha).1
            rw [← e, ht1] at q1
            simp at q1
          have hne3 : ¬ t = jr := by omega
          have hne4 : ∀ a, a < k → ¬ t = ms a := fun a ha => by have := (hms a ha).1; omega
          have e2 : ¬ n3 = t := by omega
          have e3 : (t == n3) = false := by simp; omega
          have e4 : ¬ i > 100000 := by omega
          have e5 : ¬ t = n := by omega
          have e6 := (hA2.keeps t htn).trans ht1
          have e8 := htl
          simp +decide -implicitDefEqProofs only [stp,code_seq,evWanted,evOp,val,absV,evBin,evConv,evBuiltin,cmpInt,vals,partsOf,isAggD,cellsOf,isAggV,Nat.reduceEqDiff,Nat.reduceLT,Nat.reduceBEq,Nat.reduceBNe,reduceCtorEq,if_true,if_false,reduceIte,forall_const,IntKind.bits,IntKind.signed,eq_self_iff_true,finalOf,resultOf,cellsGood,AC.isCell,senv_mem,lift, spliceAll,allFields,places,splice,List.take_zero,List.take_succ_cons,List.take_nil,List.drop_zero,List.drop_succ_cons,List.drop_nil,List.nil_append,List.append_nil,List.cons_append,List.all_cons,List.all_nil,Option.isSome_some,Nat.reduceAdd,Nat.reduceSub,Nat.reduceMul,Nat.reduceMod,Nat.reduceLeDiff,List.range,List.range.loop,List.map_cons,List.map_nil,pfind, lty3,lty4,lty5,lty9,lty22,lty33,lty25,lty34,lty23,lty36,lty40,lty98,lty96,lty93,lty95,lty54,lty38,lty31, lenv_mem, none1, hnt, g0, g1, g2, g9, g10, g11, hSR3, evAppend, e1, e2, e3, e4, e5, e6, e7, e8, Bool.or_self, Bool.true_or]
          refine hO1 (q - 1) _ _ _ (by omega) ⟨by simp only [nt_put, hnt], ?_, by omega, ?_⟩
          · first
            | exact (((hA1.trans hA2 (by omega)).cons (by omega)).cons (by omega)).cons (Nat.le_refl _)
            | exact ((((hA1.trans hA2 (by omega)).cons (by omega)).cons (by omega)).cons (by omega)).cons (Nat.le_refl _)
          simp +decide -implicitDefEqProofs only [stp,code_seq,evWanted,evOp,val,absV,evBin,evConv,evBuiltin,cmpInt,vals,partsOf,isAggD,cellsOf,isAggV,Nat.reduceEqDiff,Nat.reduceLT,Nat.reduceBEq,Nat.reduceBNe,reduceCtorEq,if_true,if_false,reduceIte,forall_const,IntKind.bits,IntKind.signed,eq_self_iff_true,finalOf,resultOf,cellsGood,AC.isCell,senv_mem,lift, hnt, g0, g1, g2, g9]
          rw [wrap_succ (by omega)]
          refine ⟨i + 1, .sl (n3 + 1) (i + 1), upF row i jr, upG mk i ms, by omega, rfl, ?_, hTab.grow htl htc ?_ ?_ ?_ ?_ (fun a ha => hrc a (by omega)) (fun a ha => ⟨?_, by simp [noMarks]⟩) (fun a b ha hb => hinj a b (by omega) (by omega)) ?_, ?_, ?_⟩
          · first
            | (rw [SR, get_cons, if_pos rfl]; done)
            | (rw [SR, get_cons, if_pos rfl]; simp [hi0])
          · intro i' o hi' ho
            have w := (hl1 _ _ ho).1
            have w1 : ¬ n = row i' := fun e => by
              obtain ⟨cs, q1, _⟩ := hTab.rows i' hi'
              rw [← e, hSR] at q1
              simp at q1
            have w2 := hne1 i' hi'
            have w3 : ¬ n3 + 1 = row i' := by omega
            have w4 : ¬ n3 = row i' := by omega
            simp only [get_cons, w1, w3, w4, w2, if_false]
            exact hk2 _ _ ho
          · intro i' a o hi' ha ho
            have w := (hl1 _ _ ho).1
            have w1 : ¬ n = mk i' a := by have := hmkn i' a hi' ha; omega
            have w2 := hne2 i' a hi' ha
            have w3 : ¬ n3 + 1 = mk i' a := by omega
            have w4 : ¬ n3 = mk i' a := by omega
            simp only [get_cons, w1, w3, w4, w2, if_false]
            exact hk2 _ _ ho
          · have w1 : ¬ n = n3 + 1 := by omega
            first
            | (rw [get_cons, if_neg w1, get_cons, if_pos rfl]; done)
            | (rw [get_cons, if_neg w1, get_cons, if_pos rfl]; rfl)
          · have w := (hl3 _ _ hgj).1
            have w1 : ¬ n = jr := by omega
            have w3 : ¬ n3 + 1 = jr := by omega
            have w4 : ¬ n3 = jr := by omega
            simp only [get_cons, w1, w3, w4, hne3, if_false]
            exact hgj
          · obtain ⟨r1, r2⟩ := hms a (by omega)
            have w := (hl3 _ _ r2).1
            have w1 : ¬ n = ms a := by omega
            have w3 : ¬ n3 + 1 = ms a := by omega
            have w4 : ¬ n3 = ms a := by omega
            have w5 := hne4 a (by omega)
            simp only [get_cons, w1, w3, w4, w5, if_false]
            exact r2
          · intro i' a b hi' ha hb e
            have w := (hl1 _ _ (hTab.mks i' a hi' ha).1).1
            have := (hms b (by omega)).1
            omega
          · intro i' a hi' ha
            by_cases e : i' = i
            · rw [e, upG_eq]
              have := (hms a (by omega)).1
              omega
            · rw [upG_ne e]; exact hmkn i' a (by omega) ha
          · intro t m h
            simp only [AC.sl.injEq] at h
            omega
    · have hTab' : Tab d1 T g.length s.length row mk (fun _ _ => noMarks s.length) := by rw [← show i = g.length by omega]; exact hTab
      have hfin : ∀ sl' : Slots, sl'.nt = 115 → sl'.get 0 = .c G → sl'.get 1 = .c (.str name) → sl'.get 2 = .c (.str s) → sl'.get 9 = .c (.ptr n 0) → Q1 .norm sl' d1 n1 := fun sl' a0 a1 a2 a3 a4 => hQ1 _ _ _ ⟨a0, hA1, hn1, hl1, a1, a2, a3, a4, T, row, mk, hSR, hTab', fun i' a hi' ha => hmkn i' a (by omega) ha⟩
      rcases hGc with ⟨rfl, rfl⟩ | ⟨b, cap, rfl, hrule⟩
      · have h1 : ¬ (i : Int) < 0 := by omega
        simp +decide -implicitDefEqProofs only [stp,code_seq,evWanted,evOp,val,absV,evBin,evConv,evBuiltin,cmpInt,vals,partsOf,isAggD,cellsOf,isAggV,Nat.reduceEqDiff,Nat.reduceLT,Nat.reduceBEq,Nat.reduceBNe,reduceCtorEq,if_true,if_false,reduceIte,forall_const,IntKind.bits,IntKind.signed,eq_self_iff_true,finalOf,resultOf,cellsGood,AC.isCell,senv_mem,lift, lty3,lty4,lty5,lty9,lty22,lty33,lty25,lty34,lty23,lty36,lty40,lty98,lty96,lty93,lty95,lty54,lty38,lty31, lenv_mem, none1, hnt, g0, g1, g2, g9, g10, h1]
        refine hO2 _ _ _ _ (by simp) ?_
        simp +decide -implicitDefEqProofs only [stp,code_seq,evWanted,evOp,val,absV,evBin,evConv,evBuiltin,cmpInt,vals,partsOf,isAggD,cellsOf,isAggV,Nat.reduceEqDiff,Nat.reduceLT,Nat.reduceBEq,Nat.reduceBNe,reduceCtorEq,if_true,if_false,reduceIte,forall_const,IntKind.bits,IntKind.signed,eq_self_iff_true,finalOf,resultOf,cellsGood,AC.isCell,senv_mem,lift, lty3,lty4,lty5,lty9,lty22,lty33,lty25,lty34,lty23,lty36,lty40,lty98,lty96,lty93,lty95,lty54,lty38,lty31, lenv_mem, none1, hnt, g0, g1, g2, g9, g10]
        refine hfin _ (by simp only [nt_put, hnt]) ?_ ?_ ?_ ?_ <;> simp +decide -implicitDefEqProofs only [stp,code_seq,evWanted,evOp,val,absV,evBin,evConv,evBuiltin,cmpInt,vals,partsOf,isAggD,cellsOf,isAggV,Nat.reduceEqDiff,Nat.reduceLT,Nat.reduceBEq,Nat.reduceBNe,reduceCtorEq,if_true,if_false,reduceIte,forall_const,IntKind.bits,IntKind.signed,eq_self_iff_true,finalOf,resultOf,cellsGood,AC.isCell,senv_mem,lift, hnt, g0, g1, g2, g9]
      · simp +decide -implicitDefEqProofs only [stp,code_seq,evWanted,evOp,val,absV,evBin,evConv,evBuiltin,cmpInt,vals,partsOf,isAggD,cellsOf,isAggV,Nat.reduceEqDiff,Nat.reduceLT,Nat.reduceBEq,Nat.reduceBNe,reduceCtorEq,if_true,if_false,reduceIte,forall_const,IntKind.bits,IntKind.signed,eq_self_iff_true,finalOf,resultOf,cellsGood,AC.isCell,senv_mem,lift, lty3,lty4,lty5,lty9,lty22,lty33,lty25,lty34,lty23,lty36,lty40,lty98,lty96,lty93,lty95,lty54,lty38,lty31, lenv_mem, none1, hnt, g0, g1, g2, g9, g10, h1]
        refine hO2 _ _ _ _ (by simp) ?_
        simp +decide -implicitDefEqProofs only [stp,code_seq,evWanted,evOp,val,absV,evBin,evConv,evBuiltin,cmpInt,vals,partsOf,isAggD,cellsOf,isAggV,Nat.reduceEqDiff,Nat.reduceLT,Nat.reduceBEq,Nat.reduceBNe,reduceCtorEq,if_true,if_false,reduceIte,forall_const,IntKind.bits,IntKind.signed,eq_self_iff_true,finalOf,resultOf,cellsGood,AC.isCell,senv_mem,lift, lty3,lty4,lty5,lty9,lty22,lty33,lty25,lty34,lty23,lty36,lty40,lty98,lty96,lty93,lty95,lty54,lty38,lty31, lenv_mem, none1, hnt, g0, g1, g2, g9, g10]
        refine hfin _ (by simp only [nt_put, hnt]) ?_ ?_ ?_ ?_ <;> simp +decide -implicitDefEqProofs only [stp,code_seq,evWanted,evOp,val,absV,evBin,evConv,evBuiltin,cmpInt,vals,partsOf,isAggD,cellsOf,isAggV,Nat.reduceEqDiff,Nat.reduceLT,Nat.reduceBEq,Nat.reduceBNe,reduceCtorEq,if_true,if_false,reduceIte,forall_const,IntKind.bits,IntKind.signed,eq_self_iff_true,finalOf,resultOf,cellsGood,AC.isCell,senv_mem,lift, hnt, g0, g1, g2, g9]
  clear hnt g0 g1 g2 g9
  rintro S d1 n1 ⟨hnt, hA1, hn1, hl1, g0, g1, g2, g9, T, row, mk, hSR, hTab, hmkn⟩
  rw [code_seq]
  refine code_cutR (fun sl d' n' => sl.nt = 115 ∧ Adds n d d' ∧ n + 1 ≤ n' ∧ Live d' n' ∧ sl.get 0 = .c G ∧ sl.get 1 = .c (.str name) ∧ sl.get 2 = .c (.str s) ∧ sl.get 9 = .c (.ptr n 0) ∧ SR d' n G s utf T ∧ ∃ M, Tab d' T g.length s.length row mk M ∧ Sound g s utf M ∧
    ∀ i r a x, g[i]? = some r → a ≤ s.length → den s utf (kn g M) r.ex a x → (M i a)[x]? = some true) ?_ ?_
  · intro Q1 hQ1
    simp +decide -implicitDefEqProofs only [stp,code_seq,evWanted,evOp,val,absV,evBin,evConv,evBuiltin,cmpInt,vals,partsOf,isAggD,cellsOf,isAggV,Nat.reduceEqDiff,Nat.reduceLT,Nat.reduceBEq,Nat.reduceBNe,reduceCtorEq,if_true,if_false,reduceIte,forall_const,IntKind.bits,IntKind.signed,eq_self_iff_true,finalOf,resultOf,cellsGood,AC.isCell,senv_mem,lift, lty3,lty4,lty5,lty9,lty22,lty33,lty25,lty34,lty23,lty36,lty40,lty98,lty96,lty93,lty95,lty54,lty38,lty31, lenv_mem, none1, hnt, g0, g1, g2, g9]
    refine code_loop lenv_ok none1_ok (fun q sl d' n' => sl.nt = 115 ∧ Adds n d d' ∧ n + 1 ≤ n' ∧ sl.get 0 = .c G ∧ sl.get 1 = .c (.str name) ∧ sl.get 2 = .c (.str s) ∧ sl.get 9 = .c (.ptr n 0) ∧ SR d' n G s utf T ∧ ∃ (M : Nat → Nat → List Bool) (b : Bool), sl.get 13 = .c (.bool b) ∧ Tab d' T g.length s.length row mk M ∧ Sound g s utf M ∧
      (b = false → ∀ i r a x, g[i]? = some r → a ≤ s.length → den s utf (kn g M) r.ex a x → (M i a)[x]? = some true) ∧ q = 2 * openM g.length s.length M + (if b then 1 else 0)) (2 * openM g.length s.length (fun _ _ => noMarks s.length) + 1) ?_ ?_
    · refine ⟨by simp only [nt_put, hnt], hA1, hn1, ?_⟩
      simp +decide -implicitDefEqProofs only [stp,code_seq,evWanted,evOp,val,absV,evBin,evConv,evBuiltin,cmpInt,vals,partsOf,isAggD,cellsOf,isAggV,Nat.reduceEqDiff,Nat.reduceLT,Nat.reduceBEq,Nat.reduceBNe,reduceCtorEq,if_true,if_false,reduceIte,forall_const,IntKind.bits,IntKind.signed,eq_self_iff_true,finalOf,resultOf,cellsGood,AC.isCell,senv_mem,lift, hnt, g0, g1, g2, g9]
      refine ⟨hSR, fun _ _ => noMarks s.length, true, rfl, hTab, fun i a x hx => ?_, fun h => (by cases h), rfl⟩
      simp only [noMarks, List.getElem?_replicate] at hx
      split at hx <;> simp at hx
    clear hnt g0 g1 g2 g9 hSR hTab hA1 hn1 hl1
    rintro q sl d1 n1 ⟨hnt, hA1, hn1, g0, g1, g2, g9, hSR, M, b, g13, hTab, hSd, hCl, rfl⟩ hl1 hs1 Q2 hO1 hO2
    cases b with
    | false =>
      simp +decide -implicitDefEqProofs only [stp,code_seq,evWanted,evOp,val,absV,evBin,evConv,evBuiltin,cmpInt,vals,partsOf,isAggD,cellsOf,isAggV,Nat.reduceEqDiff,Nat.reduceLT,Nat.reduceBEq,Nat.reduceBNe,reduceCtorEq,if_true,if_false,reduceIte,forall_const,IntKind.bits,IntKind.signed,eq_self_iff_true,finalOf,resultOf,cellsGood,AC.isCell,senv_mem,lift, lty3,lty4,lty5,lty9,lty22,lty33,lty25,lty34,lty23,lty36,lty40,lty98,lty96,lty93,lty95,lty54,lty38,lty31, lenv_mem, none1, hnt, g0, g1, g2, g9, g13]
      refine hO2 _ _ _ _ (by simp) ?_
      simp +decide -implicitDefEqProofs only [stp,code_seq,evWanted,evOp,val,absV,evBin,evConv,evBuiltin,cmpInt,vals,partsOf,isAggD,cellsOf,isAggV,Nat.reduceEqDiff,Nat.reduceLT,Nat.reduceBEq,Nat.reduceBNe,reduceCtorEq,if_true,if_false,reduceIte,forall_const,IntKind.bits,IntKind.signed,eq_self_iff_true,finalOf,resultOf,cellsGood,AC.isCell,senv_mem,lift, lty3,lty4,lty5,lty9,lty22,lty33,lty25,lty34,lty23,lty36,lty40,lty98,lty96,lty93,lty95,lty54,lty38,lty31, lenv_mem, none1, hnt, g0, g1, g2, g9, g13]
      refine hQ1 _ _ _ ⟨by simp only [nt_put, hnt], hA1, hn1, hl1, ?_⟩
      simp +decide -implicitDefEqProofs only [stp,code_seq,evWanted,evOp,val,absV,evBin,evConv,evBuiltin,cmpInt,vals,partsOf,isAggD,cellsOf,isAggV,Nat.reduceEqDiff,Nat.reduceLT,Nat.reduceBEq,Nat.reduceBNe,reduceCtorEq,if_true,if_false,reduceIte,forall_const,IntKind.bits,IntKind.signed,eq_self_iff_true,finalOf,resultOf,cellsGood,AC.isCell,senv_mem,lift, hnt, g0, g1, g2, g9]
      exact ⟨hSR, M, hTab, hSd, hCl rfl⟩
    | true =>
      simp +decide -implicitDefEqProofs only [stp,code_seq,evWanted,evOp,val,absV,evBin,evConv,evBuiltin,cmpInt,vals,partsOf,isAggD,cellsOf,isAggV,Nat.reduceEqDiff,Nat.reduceLT,Nat.reduceBEq,Nat.reduceBNe,reduceCtorEq,if_true,if_false,reduceIte,forall_const,IntKind.bits,IntKind.signed,eq_self_iff_true,finalOf,resultOf,cellsGood,AC.isCell,senv_mem,lift, lty3,lty4,lty5,lty9,lty22,lty33,lty25,lty34,lty23,lty36,lty40,lty98,lty96,lty93,lty95,lty54,lty38,lty31, lenv_mem, none1, hnt, g0, g1, g2, g9, g13]
      refine code_loop lenv_ok none1_ok (fun q6 sl d' n' => sl.nt = 115 ∧ Adds n d d' ∧ n + 1 ≤ n' ∧ sl.get 0 = .c G ∧ sl.get 1 = .c (.str name) ∧ sl.get 2 = .c (.str s) ∧ sl.get 9 = .c (.ptr n 0) ∧ SR d' n G s utf T ∧ ∃ (i : Nat) (M' : Nat → Nat → List Bool) (b : Bool), i + q6 = g.length ∧ sl.get 14 = .c (.int .i64 i) ∧ sl.get 13 = .c (.bool b) ∧ Tab d' T g.length s.length row mk M' ∧ Sound g s utf M' ∧
        openM g.length s.length M' ≤ openM g.length s.length M ∧ (b = true → openM g.length s.length M' < openM g.length s.length M) ∧ (b = false → ∀ i' r a x, i' < i → g[i']? = some r → a ≤ s.length → den s utf (kn g M') r.ex a x → (M' i' a)[x]? = some true)) g.length ?_ ?_
      · refine ⟨by simp only [nt_put, hnt], hA1, hn1, ?_⟩
        simp +decide -implicitDefEqProofs only [stp,code_seq,evWanted,evOp,val,absV,evBin,evConv,evBuiltin,cmpInt,vals,partsOf,isAggD,cellsOf,isAggV,Nat.reduceEqDiff,Nat.reduceLT,Nat.reduceBEq,Nat.reduceBNe,reduceCtorEq,if_true,if_false,reduceIte,forall_const,IntKind.bits,IntKind.signed,eq_self_iff_true,finalOf,resultOf,cellsGood,AC.isCell,senv_mem,lift, hnt, g0, g1, g2, g9]
        exact ⟨hSR, 0, M, false, by omega, rfl, rfl, hTab, hSd, Nat.le_refl _, fun h => (by cases h), fun _ i' r a x h => by omega⟩
      clear hnt g0 g1 g2 g9 g13 hSR hTab hSd hCl hA1 hn1 hl1
      rintro q6 sl d1 n1 ⟨hnt, hA1, hn1, g0, g1, g2, g9, hSR, i, M', b', hiq, g14, g13, hTab, hSd, hop, hopl, hcl⟩ hl1 hs1 Q3 hP1 hP2
      by_cases h1 : (i : Int) < g.length
      · rcases hGc with ⟨_, rfl⟩ | ⟨b, cap, rfl, hrule⟩
        · simp at h1; omega
        simp +decide -implicitDefEqProofs only [stp,code_seq,evWanted,evOp,val,absV,evBin,evConv,evBuiltin,cmpInt,vals,partsOf,isAggD,cellsOf,isAggV,Nat.reduceEqDiff,Nat.reduceLT,Nat.reduceBEq,Nat.reduceBNe,reduceCtorEq,if_true,if_false,reduceIte,forall_const,IntKind.bits,IntKind.signed,eq_self_iff_true,finalOf,resultOf,cellsGood,AC.isCell,senv_mem,lift, lty3,lty4,lty5,lty9,lty22,lty33,lty25,lty34,lty23,lty36,lty40,lty98,lty96,lty93,lty95,lty54,lty38,lty31, lenv_mem, none1, hnt, g0, g1, g2, g9, g13, g14, h1]
        refine code_loop lenv_ok none1_ok (fun q8 sl d' n' => sl.nt = 115 ∧ Adds n d d' ∧ n + 1 ≤ n' ∧ sl.get 0 = .c (.raw (.slice (some ⟨b, 0, none⟩) g.length cap)) ∧ sl.get 1 = .c (.str name) ∧ sl.get 2 = .c (.str s) ∧ sl.get 9 = .c (.ptr n 0) ∧ sl.get 14 = .c (.int .i64 i) ∧ SR d' n (.raw (.slice (some ⟨b, 0, none⟩) g.length cap)) s utf T ∧ ∃ (k : Nat) (M' : Nat → Nat → List Bool) (b : Bool), k + q8 = s.length + 1 ∧ sl.get 15 = .c (.int .i64 k) ∧ sl.get 13 = .c (.bool b) ∧ Tab d' T g.length s.length row mk M' ∧ Sound g s utf M' ∧
          openM g.length s.length M' ≤ openM g.length s.length M ∧ (b = true → openM g.length s.length M' < openM g.length s.length M) ∧ (b = false → ∀ i' r a x, (i' < i ∨ (i' = i ∧ a < k)) → g[i']? = some r → a ≤ s.length → den s utf (kn g M') r.ex a x → (M' i' a)[x]? = some true)) (s.length + 1) ?_ ?_
        · refine ⟨by simp only [nt_put, hnt], hA1, hn1, ?_⟩
          simp +decide -implicitDefEqProofs only [stp,code_seq,evWanted,evOp,val,absV,evBin,evConv,evBuiltin,cmpInt,vals,partsOf,isAggD,cellsOf,isAggV,Nat.reduceEqDiff,Nat.reduceLT,Nat.reduceBEq,Nat.reduceBNe,reduceCtorEq,if_true,if_false,reduceIte,forall_const,IntKind.bits,IntKind.signed,eq_self_iff_true,finalOf,resultOf,cellsGood,AC.isCell,senv_mem,lift, hnt, g0, g1, g2, g9, g13, g14]
          exact ⟨hSR, 0, M', b', by omega, rfl, rfl, hTab, hSd, hop, hopl, fun h i' r a x h1 h2 h3 h4 => hcl h i' r a x (by omega) h2 h3 h4⟩
        clear hnt g0 g1 g2 g9 g13 g14 hSR hTab hSd hop hopl hcl hA1 hn1 hl1 hs1
        rintro q8 sl d2 n2 ⟨hnt, hA2, hn2, g0, g1, g2, g9, g14, hSR, k, M', b', hkq, g15, g13, hTab, hSd, hop, hopl, hcl⟩ hl2 hs2 Q4 hR1 hR2
        by_cases h2 : (k : Int) ≤ s.length
        · have hkl : k ≤ s.length := by omega
          have hil : i < g.length := by omega
          obtain ⟨r, hr⟩ : ∃ r, g[i]? = some r := ⟨_, List.getElem?_eq_getElem hil⟩
          obtain ⟨cs, hm6, hex⟩ := hrule i r hr
          have hwr := hwf r (List.mem_of_getElem? hr)
          have hee := fun d' m (h1 : SR d' n (.raw (.slice (some ⟨b, 0, none⟩) g.length cap)) s utf T) (h2 : Tab d' T g.length s.length row mk M') => hends r.ex B0 cs n d' m T row mk M' k hex hwr h1 h2 hkl
          obtain ⟨h6, hg6⟩ := exAt_six hex
          have hL6 : (cs.map lift).length = 6 := by simp [h6]
          have hg6' : (cs.map lift).all AC.isCell = true := hg6
          generalize cs.map lift = L' at hm6 hee hL6 hg6'
          obtain ⟨C, hC⟩ : ∃ C, canon s.length (den s utf (kn g M') r.ex k) = C := ⟨_, rfl⟩
          obtain ⟨hmk, hml⟩ := hTab.mks i k hil hkl
          have hmkl := (hl2 _ _ hmk).1
          have hnn := (hl2 _ _ hSR).1
          have hmkg := hmkn i k hil hkl
          rcases hTab.top with ⟨h, _⟩ | ⟨t, tc, rfl, ht1, htc, htl⟩
          · omega
          have htci := htc i hil
          obtain ⟨rc, hrow1, hrow2⟩ := hTab.rows i hil
          have hrow3 := hrow2 k hkl
          have hdl : ∀ x, den s utf (kn g M') r.ex k x → x ≤ s.length := fun x hx => (den_in (N := kn g M') (fun nm a x ha ⟨i, k1, k2, k3⟩ => ⟨by
            have := (List.getElem?_eq_some_iff.1 k3).1
            rw [(hTab.mks i a k2 ha).2] at this
            omega, i, k1, k2, k3⟩) r.ex k x hkl hx).1
          have hIs : Is s.length C (den s utf (kn g M') r.ex k) := hC ▸ canon_is hdl
          have hcF : CallOk Tryz.prog (lenv (memOf w0)) B0 (callFresh 41 n2 d2 [.c (.ptr n 0), .agg L', .c (.int .i64 k)] (s.length + 1) (.cells 4 (mksC C))) := callFresh_ok (mksC_plain _ _) fun d' m hm hag => by
            refine (hee d' m ((hag n hnn).trans hSR) (hTab.keep hl2 hag)).mono ?_
            rintro v d'' m' ⟨j, bs, r1, r2, r3, r4, r5⟩ _ _ _
            rw [is_canon r5, hC] at r4
            exact ⟨j, r1, r2, r3, r4⟩
          have hcS : CallOk Tryz.prog (lenv (memOf w0)) B0 (callSet 40 (mk i k) n2 [.c (.sl (mk i k) (s.length + 1)), .c (.sl n2 (s.length + 1))] (.cells 4 (mksC (M' i k))) (.cells 4 (mksC C)) (.cells 4 (mksC (orL (M' i k) C))) (.bool (newB (M' i k) C))) := callSet_ok (mksC_plain _ _) rfl fun d' m q1 q2 =>
            join_okL q1 q2 (by omega) hml hIs.1 (by omega)
          have hcO := callOr_ok hcF hcS
          have hE : ∀ B m, n2 ≤ m → (∀ i < n2, get ([] :: B) i = get [d2] i) → callOr (callFresh 41 n2 d2 [.c (.ptr n 0), .agg L', .c (.int .i64 k)] (s.length + 1) (.cells 4 (mksC C))) (callSet 40 (mk i k) n2 [.c (.sl (mk i k) (s.length + 1)), .c (.sl n2 (s.length + 1))] (.cells 4 (mksC (M' i k))) (.cells 4 (mksC C)) (.cells 4 (mksC (orL (M' i k) C))) (.bool (newB (M' i k) C))) 41 [.c (.ptr n 0), .agg L', .c (.int .i64 k)] B [] m = some (.c (.sl m (s.length + 1)), [(m, some (.cells 4 (mksC C)))], m + 1) := fun B m hm hag => callOr_l (callFresh_eq hm hag)
          have hJ : ∀ B m, get ([] :: B) (mk i k) = some (.cells 4 (mksC (M' i k))) → get ([] :: B) n2 = some (.cells 4 (mksC C)) → callOr (callFresh 41 n2 d2 [.c (.ptr n 0), .agg L', .c (.int .i64 k)] (s.length + 1) (.cells 4 (mksC C))) (callSet 40 (mk i k) n2 [.c (.sl (mk i k) (s.length + 1)), .c (.sl n2 (s.length + 1))] (.cells 4 (mksC (M' i k))) (.cells 4 (mksC C)) (.cells 4 (mksC (orL (M' i k) C))) (.bool (newB (M' i k) C))) 40 [.c (.sl (mk i k) (s.length + 1)), .c (.sl n2 (s.length + 1))] B [] m = some (.c (.bool (newB (M' i k) C)), [(mk i k, some (.cells 4 (mksC (orL (M' i k) C))))], m) := fun B m q1 q2 => (callOr_r (fresh_other (by decide))).trans (callSet_eq q1 q2)
          obtain ⟨cl, hcle⟩ : ∃ cl, callOr (callFresh 41 n2 d2 [.c (.ptr n 0), .agg L', .c (.int .i64 k)] (s.length + 1) (.cells 4 (mksC C))) (callSet 40 (mk i k) n2 [.c (.sl (mk i k) (s.length + 1)), .c (.sl n2 (s.length + 1))] (.cells 4 (mksC (M' i k))) (.cells 4 (mksC C)) (.cells 4 (mksC (orL (M' i k) C))) (.bool (newB (M' i k) C))) = cl := ⟨_, rfl⟩
          rw [hcle] at hcO hE hJ
          clear hcF hcS hcle
          have hE2 : ∀ bits rs kk, recsFrom n2 rs → cl 41 [.c (.ptr n 0), .agg L', .c (.int .i64 k)] (heapAt bits [] [d2] rs kk) [] n2 = some (.c (.sl n2 (s.length + 1)), [(n2, some (.cells 4 (mksC C)))], n2 + 1) := fun bits rs kk h => hE _ _ (Nat.le_refl _) (agree_heapAt h)
          clear hE
          have hk0 : (0 : Int) ≤ (k : Int) := by omega
          have hi0 : (0 : Int) ≤ (i : Int) := by omega
          have hks : (k : Int) < ((s.length + 1 : Nat) : Int) := by omega
          have z1 : ¬ n2 = mk i k := by omega
          have z2 : ¬ n2 = n := by omega
          have z3 : ¬ n2 = t := by have := (hl2 _ _ ht1).1; omega
          have z4 : ¬ n2 = row i := by have := (hl2 _ _ hrow1).1; omega
          have z5 : ¬ mk i k = n2 := by omega
          have z6 : ¬ mk i k = n := by omega
          unfold SR at hSR
          simp +decide -implicitDefEqProofs only [stp,code_seq,evWanted,evOp,val,absV,evBin,evConv,evBuiltin,cmpInt,vals,partsOf,isAggD,cellsOf,isAggV,Nat.reduceEqDiff,Nat.reduceLT,Nat.reduceBEq,Nat.reduceBNe,reduceCtorEq,if_true,if_false,reduceIte,forall_const,IntKind.bits,IntKind.signed,eq_self_iff_true,finalOf,resultOf,cellsGood,AC.isCell,senv_mem,lift, lty3,lty4,lty5,lty9,lty22,lty33,lty25,lty34,lty23,lty36,lty40,lty98,lty96,lty93,lty95,lty54,lty38,lty31, lenv_mem, none1, hnt, g0, g1, g2, g9, g13, g14, g15, h2]
          apply code_drawn2 lenv_ok hcO (by decide) _ (by rfl)
          · simp +decide -implicitDefEqProofs only [stp,code_seq,evWanted,evOp,val,absV,evBin,evConv,evBuiltin,cmpInt,vals,partsOf,isAggD,cellsOf,isAggV,Nat.reduceEqDiff,Nat.reduceLT,Nat.reduceBEq,Nat.reduceBNe,reduceCtorEq,if_true,if_false,reduceIte,forall_const,IntKind.bits,IntKind.signed,eq_self_iff_true,finalOf,resultOf,cellsGood,AC.isCell,senv_mem,lift, flat,d_nil,d_cons,d_true,d_false,d_some,d_some1,slotsAt_get,slotsAt_nt,get_mk_cons,get_mk,wrs_nil,wrs_cons,wrs_none,get_heapAt,get_seen_nil,get_seen_cons,get_seen_one,List.cons_append,List.nil_append,Nat.reduceSub,Nat.reduceAdd,Nat.add_one_sub_one,bitOf, lty3,lty4,lty5,lty9,lty22,lty33,lty25,lty34,lty23,lty36,lty40,lty98,lty96,lty93,lty95,lty54,lty38,lty31, lenv_mem, hnt, g0, g1, g2, g9, g13, g14, g15, h1, hSR, ht1, htci, hrow1, hrow3, hk0, hi0, hks, Int.toNat_natCast, hm6, hE2, hJ, recs_nil, recs_cons, recs_one, Nat.le_refl, z1, z2, z3, z4, hmk, Nat.add_zero]
            rfl
          · simp +decide [laters, laterIds, subAll, subIds]
          · have hA3 : Adds n d ((mk i k, some (.cells 4 (mksC (orL (M' i k) C)))) :: (n2, some (.cells 4 (mksC C))) :: d2) := (hA2.cons (j := n2) (by omega)).cons (by omega)
            have hSR3 : SR ((mk i k, some (.cells 4 (mksC (orL (M' i k) C)))) :: (n2, some (.cells 4 (mksC C))) :: d2) n (.raw (.slice (some ⟨b, 0, none⟩) g.length cap)) s utf (.sl t g.length) := by
              rw [SR, get_cons, if_neg z6, get_cons, if_neg z2]; exact hSR
            have hTab3 := hTab.set hil hkl (B := orL (M' i k) C) (d' := (mk i k, some (.cells 4 (mksC (orL (M' i k) C)))) :: (n2, some (.cells 4 (mksC C))) :: d2) (fun j o hj ho => by
              have := (hl2 j o ho).1
              rw [get_cons, if_neg (fun e => hj e.symm), get_cons, if_neg (by omega)]; exact ho) (by rw [get_cons, if_pos rfl]) (by rw [orL_len (hml.trans hIs.1.symm)]; exact hml)
            have hSd3 := sound_set hSd hr (fun x hx => (hIs.2 x).1 hx)
            have hop3 := open_set (G := g.length) (L := s.length) hil hkl (hml.trans hIs.1.symm)
            cases hnb : newB (M' i k) C with
            | true =>
              simp +decide -implicitDefEqProofs only [stp,code_seq,evWanted,evOp,val,absV,evBin,evConv,evBuiltin,cmpInt,vals,partsOf,isAggD,cellsOf,isAggV,Nat.reduceEqDiff,Nat.reduceLT,Nat.reduceBEq,Nat.reduceBNe,reduceCtorEq,if_true,if_false,reduceIte,forall_const,IntKind.bits,IntKind.signed,eq_self_iff_true,finalOf,resultOf,cellsGood,AC.isCell,senv_mem,lift, flat,d_nil,d_cons,d_true,d_false,d_some,d_some1,slotsAt_get,slotsAt_nt,get_mk_cons,get_mk,wrs_nil,wrs_cons,wrs_none,get_heapAt,get_seen_nil,get_seen_cons,get_seen_one,List.cons_append,List.nil_append,Nat.reduceSub,Nat.reduceAdd,Nat.add_one_sub_one,bitOf, lty3,lty4,lty5,lty9,lty22,lty33,lty25,lty34,lty23,lty36,lty40,lty98,lty96,lty93,lty95,lty54,lty38,lty31, lenv_mem, none1, hnt, g0, g1, g2, g9, g13, g14, g15, hnb]
              refine hR1 (q8 - 1) _ _ _ (by omega) ⟨by simp only [nt_put, hnt], hA3, by omega, ?_⟩
              simp +decide -implicitDefEqProofs only [stp,code_seq,evWanted,evOp,val,absV,evBin,evConv,evBuiltin,cmpInt,vals,partsOf,isAggD,cellsOf,isAggV,Nat.reduceEqDiff,Nat.reduceLT,Nat.reduceBEq,Nat.reduceBNe,reduceCtorEq,if_true,if_false,reduceIte,forall_const,IntKind.bits,IntKind.signed,eq_self_iff_true,finalOf,resultOf,cellsGood,AC.isCell,senv_mem,lift, flat,d_nil,d_cons,d_true,d_false,d_some,d_some1,slotsAt_get,slotsAt_nt,get_mk_cons,get_mk,wrs_nil,wrs_cons,wrs_none,get_heapAt,get_seen_nil,get_seen_cons,get_seen_one,List.cons_append,List.nil_append,Nat.reduceSub,Nat.reduceAdd,Nat.add_one_sub_one,bitOf, hnt, g0, g1, g2, g9, g14]
              rw [wrap_succ (by omega)]
              have := hop3.2 hnb
              exact ⟨hSR3, k + 1, _, true, by omega, rfl, rfl, hTab3, hSd3, by omega, fun _ => by omega, fun h => by cases h⟩
            | false =>
              have hor := newB_false hnb (hml.trans hIs.1.symm)
              rw [hor, setM_self] at hTab3 hSd3
              simp +decide -implicitDefEqProofs only [stp,code_seq,evWanted,evOp,val,absV,evBin,evConv,evBuiltin,cmpInt,vals,partsOf,isAggD,cellsOf,isAggV,Nat.reduceEqDiff,Nat.reduceLT,Nat.reduceBEq,Nat.reduceBNe,reduceCtorEq,if_true,if_false,reduceIte,forall_const,IntKind.bits,IntKind.signed,eq_self_iff_true,finalOf,resultOf,cellsGood,AC.isCell,senv_mem,lift, flat,d_nil,d_cons,d_true,d_false,d_some,d_some1,slotsAt_get,slotsAt_nt,get_mk_cons,get_mk,wrs_nil,wrs_cons,wrs_none,get_heapAt,get_seen_nil,get_seen_cons,get_seen_one,List.cons_append,List.nil_append,Nat.reduceSub,Nat.reduceAdd,Nat.add_one_sub_one,bitOf, lty3,lty4,lty5,lty9,lty22,lty33,lty25,lty34,lty23,lty36,lty40,lty98,lty96,lty93,lty95,lty54,lty38,lty31, lenv_mem, none1, hnt, g0, g1, g2, g9, g13, g14, g15, hnb]
              refine hR1 (q8 - 1) _ _ _ (by omega) ⟨by simp only [nt_put, hnt], hA3, by omega, ?_⟩
              simp +decide -implicitDefEqProofs only [stp,code_seq,evWanted,evOp,val,absV,evBin,evConv,evBuiltin,cmpInt,vals,partsOf,isAggD,cellsOf,isAggV,Nat.reduceEqDiff,Nat.reduceLT,Nat.reduceBEq,Nat.reduceBNe,reduceCtorEq,if_true,if_false,reduceIte,forall_const,IntKind.bits,IntKind.signed,eq_self_iff_true,finalOf,resultOf,cellsGood,AC.isCell,senv_mem,lift, flat,d_nil,d_cons,d_true,d_false,d_some,d_some1,slotsAt_get,slotsAt_nt,get_mk_cons,get_mk,wrs_nil,wrs_cons,wrs_none,get_heapAt,get_seen_nil,get_seen_cons,get_seen_one,List.cons_append,List.nil_append,Nat.reduceSub,Nat.reduceAdd,Nat.add_one_sub_one,bitOf, hnt, g0, g1, g2, g9, g13, g14]
              rw [wrap_succ (by omega)]
              rw [hor] at hSR3 ⊢
              refine ⟨hSR3, k + 1, M', b', by omega, rfl, rfl, hTab3, hSd3, hop, hopl, fun h i' r' a x u1 u2 u3 u4 => ?_⟩
              by_cases he : i' = i ∧ a = k
              · obtain ⟨rfl, rfl⟩ := he
                have h2' := hr.symm.trans u2
                simp only [Option.some.injEq] at h2'
                subst h2'
                have hx := (hIs.2 x).2 u4
                have hor2 : (orL (M' i' a) C)[x]? = some true := by
                  rw [orL_get, hx]
                  obtain ⟨y, hy⟩ : ∃ y, (M' i' a)[x]? = some y := ⟨_, List.getElem?_eq_getElem (by rw [hml]; have := hdl x u4; omega)⟩
                  rw [hy]
                  simp
                rw [hor] at hor2
                exact hor2
              · exact hcl h i' r' a x (by omega) u2 u3 u4
        · simp +decide -implicitDefEqProofs only [stp,code_seq,evWanted,evOp,val,absV,evBin,evConv,evBuiltin,cmpInt,vals,partsOf,isAggD,cellsOf,isAggV,Nat.reduceEqDiff,Nat.reduceLT,Nat.reduceBEq,Nat.reduceBNe,reduceCtorEq,if_true,if_false,reduceIte,forall_const,IntKind.bits,IntKind.signed,eq_self_iff_true,finalOf,resultOf,cellsGood,AC.isCell,senv_mem,lift, lty3,lty4,lty5,lty9,lty22,lty33,lty25,lty34,lty23,lty36,lty40,lty98,lty96,lty93,lty95,lty54,lty38,lty31, lenv_mem, none1, hnt, g0, g1, g2, g9, g13, g14, g15, h2]
          refine hR2 _ _ _ _ (by simp) ?_
          simp +decide -implicitDefEqProofs only [stp,code_seq,evWanted,evOp,val,absV,evBin,evConv,evBuiltin,cmpInt,vals,partsOf,isAggD,cellsOf,isAggV,Nat.reduceEqDiff,Nat.reduceLT,Nat.reduceBEq,Nat.reduceBNe,reduceCtorEq,if_true,if_false,reduceIte,forall_const,IntKind.bits,IntKind.signed,eq_self_iff_true,finalOf,resultOf,cellsGood,AC.isCell,senv_mem,lift, lty3,lty4,lty5,lty9,lty22,lty33,lty25,lty34,lty23,lty36,lty40,lty98,lty96,lty93,lty95,lty54,lty38,lty31, lenv_mem, none1, hnt, g0, g1, g2, g9, g13, g14]
          refine hP1 (q6 - 1) _ _ _ (by omega) ⟨by simp only [nt_put, hnt], hA2, hn2, ?_⟩
          simp +decide -implicitDefEqProofs only [stp,code_seq,evWanted,evOp,val,absV,evBin,evConv,evBuiltin,cmpInt,vals,partsOf,isAggD,cellsOf,isAggV,Nat.reduceEqDiff,Nat.reduceLT,Nat.reduceBEq,Nat.reduceBNe,reduceCtorEq,if_true,if_false,reduceIte,forall_const,IntKind.bits,IntKind.signed,eq_self_iff_true,finalOf,resultOf,cellsGood,AC.isCell,senv_mem,lift, hnt, g0, g1, g2, g9, g13]
          rw [wrap_succ (by omega)]
          exact ⟨hSR, i + 1, M', b', by omega, rfl, rfl, hTab, hSd, hop, hopl, fun h i' r a x h1 h2 h3 h4 => hcl h i' r a x (by omega) h2 h3 h4⟩
      · have hend : ∀ sl' : Slots, sl'.nt = 115 → sl'.get 0 = .c G → sl'.get 1 = .c (.str name) → sl'.get 2 = .c (.str s) → sl'.get 9 = .c (.ptr n 0) → sl'.get 13 = .c (.bool b') → Q2 .norm sl' d1 n1 := fun sl' a0 a1 a2 a3 a4 a5 => by
          refine hO1 (2 * openM g.length s.length M' + (if b' then 1 else 0)) _ _ _ ?_ ⟨a0, hA1, hn1, a1, a2, a3, a4, hSR, M', b', a5, hTab, hSd, fun h i' r a x h2 h3 h4 => hcl h i' r a x ?_ h2 h3 h4, rfl⟩
          · cases b' with
            | true => have := hopl rfl; simp; omega
            | false => simp; omega
          · have := (List.getElem?_eq_some_iff.1 h2).1
            omega
        rcases hGc with ⟨rfl, rfl⟩ | ⟨b, cap, rfl, hrule⟩
        · have h1 : ¬ (i : Int) < 0 := by omega
          simp +decide -implicitDefEqProofs only [stp,code_seq,evWanted,evOp,val,absV,evBin,evConv,evBuiltin,cmpInt,vals,partsOf,isAggD,cellsOf,isAggV,Nat.reduceEqDiff,Nat.reduceLT,Nat.reduceBEq,Nat.reduceBNe,reduceCtorEq,if_true,if_false,reduceIte,forall_const,IntKind.bits,IntKind.signed,eq_self_iff_true,finalOf,resultOf,cellsGood,AC.isCell,senv_mem,lift, lty3,lty4,lty5,lty9,lty22,lty33,lty25,lty34,lty23,lty36,lty40,lty98,lty96,lty93,lty95,lty54,lty38,lty31, lenv_mem, none1, hnt, g0, g1, g2, g9, g13, g14, h1]
          refine hP2 _ _ _ _ (by simp) ?_
          simp +decide -implicitDefEqProofs only [stp,code_seq,evWanted,evOp,val,absV,evBin,evConv,evBuiltin,cmpInt,vals,partsOf,isAggD,cellsOf,isAggV,Nat.reduceEqDiff,Nat.reduceLT,Nat.reduceBEq,Nat.reduceBNe,reduceCtorEq,if_true,if_false,reduceIte,forall_const,IntKind.bits,IntKind.signed,eq_self_iff_true,finalOf,resultOf,cellsGood,AC.isCell,senv_mem,lift, lty3,lty4,lty5,lty9,lty22,lty33,lty25,lty34,lty23,lty36,lty40,lty98,lty96,lty93,lty95,lty54,lty38,lty31, lenv_mem, none1, hnt, g0, g1, g2, g9, g13, g14]
          refine hend _ (by simp only [nt_put, hnt]) ?_ ?_ ?_ ?_ ?_ <;> simp +decide -implicitDefEqProofs only [stp,code_seq,evWanted,evOp,val,absV,evBin,evConv,evBuiltin,cmpInt,vals,partsOf,isAggD,cellsOf,isAggV,Nat.reduceEqDiff,Nat.reduceLT,Nat.reduceBEq,Nat.reduceBNe,reduceCtorEq,if_true,if_false,reduceIte,forall_const,IntKind.bits,IntKind.signed,eq_self_iff_true,finalOf,resultOf,cellsGood,AC.isCell,senv_mem,lift, hnt, g0, g1, g2, g9, g13]
        · simp +decide -implicitDefEqProofs only [stp,code_seq,evWanted,evOp,val,absV,evBin,evConv,evBuiltin,cmpInt,vals,partsOf,isAggD,cellsOf,isAggV,Nat.reduceEqDiff,Nat.reduceLT,Nat.reduceBEq,Nat.reduceBNe,reduceCtorEq,if_true,if_false,reduceIte,forall_const,IntKind.bits,IntKind.signed,eq_self_iff_true,finalOf,resultOf,cellsGood,AC.isCell,senv_mem,lift, lty3,lty4,lty5,lty9,lty22,lty33,lty25,lty34,lty23,lty36,lty40,lty98,lty96,lty93,lty95,lty54,lty38,lty31, lenv_mem, none1, hnt, g0, g1, g2, g9, g13, g14, h1]
          refine hP2 _ _ _ _ (by simp) ?_
          simp +decide -implicitDefEqProofs only [stp,code_seq,evWanted,evOp,val,absV,evBin,evConv,evBuiltin,cmpInt,vals,partsOf,isAggD,cellsOf,isAggV,Nat.reduceEqDiff,Nat.reduceLT,Nat.reduceBEq,Nat.reduceBNe,reduceCtorEq,if_true,if_false,reduceIte,forall_const,IntKind.bits,IntKind.signed,eq_self_iff_true,finalOf,resultOf,cellsGood,AC.isCell,senv_mem,lift, lty3,lty4,lty5,lty9,lty22,lty33,lty25,lty34,lty23,lty36,lty40,lty98,lty96,lty93,lty95,lty54,lty38,lty31, lenv_mem, none1, hnt, g0, g1, g2, g9, g13, g14]
          refine hend _ (by simp only [nt_put, hnt]) ?_ ?_ ?_ ?_ ?_ <;> simp +decide -implicitDefEqProofs only [stp,code_seq,evWanted,evOp,val,absV,evBin,evConv,evBuiltin,cmpInt,vals,partsOf,isAggD,cellsOf,isAggV,Nat.reduceEqDiff,Nat.reduceLT,Nat.reduceBEq,Nat.reduceBNe,reduceCtorEq,if_true,if_false,reduceIte,forall_const,IntKind.bits,IntKind.signed,eq_self_iff_true,finalOf,resultOf,cellsGood,AC.isCell,senv_mem,lift, hnt, g0, g1, g2, g9, g13]
  clear hnt g0 g1 g2 g9 hSR hTab hA1 hn1 hl1
  rintro S d2 n2 ⟨hnt, hA2, hn2, hl2, g0, g1, g2, g9, hSR, M, hTab, hSd, hCl⟩
  simp +decide -implicitDefEqProofs only [stp,code_seq,evWanted,evOp,val,absV,evBin,evConv,evBuiltin,cmpInt,vals,partsOf,isAggD,cellsOf,isAggV,Nat.reduceEqDiff,Nat.reduceLT,Nat.reduceBEq,Nat.reduceBNe,reduceCtorEq,if_true,if_false,reduceIte,forall_const,IntKind.bits,IntKind.signed,eq_self_iff_true,finalOf,resultOf,cellsGood,AC.isCell,senv_mem,lift, lty3,lty4,lty5,lty9,lty22,lty33,lty25,lty34,lty23,lty36,lty40,lty98,lty96,lty93,lty95,lty54,lty38,lty31, lenv_mem, none1, hnt, g0, g1, g2, g9]
  refine call_mono (hfind d2 n2) fun v d3 n3 hR hl3 hle3 hok3 => ?_
  obtain ⟨rfl, rfl, rfl⟩ := hR
  have hlen : ∀ i a, i < g.length → a ≤ s.length → (M i a).length = s.length + 1 := fun i a hi ha => (hTab.mks i a hi ha).2
  have hder : ∀ x, kn g M name 0 x ↔ Der g s utf name 0 x := fun x => ⟨kn_der hSd name 0 x, der_kn hlen hCl (Nat.zero_le _)⟩
  rcases findIx_range (nm := name) g 0 with hf | ⟨k, hk, hf⟩
  · have hno : ∀ x, ¬ Der g s utf name 0 x := fun x hx => by
      obtain ⟨i, h1, h2, _⟩ := (hder x).2 hx
      rw [hf] at h1; omega
    rw [hf]
    simp +decide -implicitDefEqProofs only [stp,code_seq,evWanted,evOp,val,absV,evBin,evConv,evBuiltin,cmpInt,vals,partsOf,isAggD,cellsOf,isAggV,Nat.reduceEqDiff,Nat.reduceLT,Nat.reduceBEq,Nat.reduceBNe,reduceCtorEq,if_true,if_false,reduceIte,forall_const,IntKind.bits,IntKind.signed,eq_self_iff_true,finalOf,resultOf,cellsGood,AC.isCell,senv_mem,lift, lty3,lty4,lty5,lty9,lty22,lty33,lty25,lty34,lty23,lty36,lty40,lty98,lty96,lty93,lty95,lty54,lty38,lty31, lenv_mem, none1, hnt, g0, g1, g2, g9]
    refine code_loop lenv_ok none1_ok (fun q sl d' n' => sl.nt = 115 ∧ d' = d3 ∧ n' = n3 ∧ sl.get 2 = .c (.str s) ∧ sl.get 16 = .c .sl0 ∧ sl.get 17 = .c (.int .i64 (-1)) ∧ sl.get 18 = .c (.int .i64 0)) 0 ?_ ?_
    · refine ⟨by simp only [nt_put, hnt], rfl, rfl, ?_⟩
      simp +decide -implicitDefEqProofs only [stp,code_seq,evWanted,evOp,val,absV,evBin,evConv,evBuiltin,cmpInt,vals,partsOf,isAggD,cellsOf,isAggV,Nat.reduceEqDiff,Nat.reduceLT,Nat.reduceBEq,Nat.reduceBNe,reduceCtorEq,if_true,if_false,reduceIte,forall_const,IntKind.bits,IntKind.signed,eq_self_iff_true,finalOf,resultOf,cellsGood,AC.isCell,senv_mem,lift, hnt, g2]
    clear hnt g0 g1 g2 g9
    rintro q sl d4 n4 ⟨hnt, rfl, rfl, g2, g16, g17, g18⟩ hl4 hs4 Q2 hO1 hO2
    have q1 : (0 : Int) ≤ s.length := by omega
    have q2 : ¬ ((-1 : Int) ≥ 0) := by omega
    simp +decide -implicitDefEqProofs only [stp,code_seq,evWanted,evOp,val,absV,evBin,evConv,evBuiltin,cmpInt,vals,partsOf,isAggD,cellsOf,isAggV,Nat.reduceEqDiff,Nat.reduceLT,Nat.reduceBEq,Nat.reduceBNe,reduceCtorEq,if_true,if_false,reduceIte,forall_const,IntKind.bits,IntKind.signed,eq_self_iff_true,finalOf,resultOf,cellsGood,AC.isCell,senv_mem,lift, lty3,lty4,lty5,lty9,lty22,lty33,lty25,lty34,lty23,lty36,lty40,lty98,lty96,lty93,lty95,lty54,lty38,lty31, lenv_mem, none1, hnt, g2, g16, g17, g18, q1, q2]
    refine hO2 _ _ _ _ (by simp) ?_
    simp +decide -implicitDefEqProofs only [stp,code_seq,evWanted,evOp,val,absV,evBin,evConv,evBuiltin,cmpInt,vals,partsOf,isAggD,cellsOf,isAggV,Nat.reduceEqDiff,Nat.reduceLT,Nat.reduceBEq,Nat.reduceBNe,reduceCtorEq,if_true,if_false,reduceIte,forall_const,IntKind.bits,IntKind.signed,eq_self_iff_true,finalOf,resultOf,cellsGood,AC.isCell,senv_mem,lift, lty3,lty4,lty5,lty9,lty22,lty33,lty25,lty34,lty23,lty36,lty40,lty98,lty96,lty93,lty95,lty54,lty38,lty31, lenv_mem, none1, hnt, g2, g16, g17, g18]
    refine hQ _ _ _ _ (.c .sl0) (by simp) ?_ ⟨[], ⟨List.Pairwise.nil, fun x => ?_⟩, .inl ⟨rfl, rfl⟩, hA2⟩
    · simp +decide -implicitDefEqProofs only [stp,code_seq,evWanted,evOp,val,absV,evBin,evConv,evBuiltin,cmpInt,vals,partsOf,isAggD,cellsOf,isAggV,Nat.reduceEqDiff,Nat.reduceLT,Nat.reduceBEq,Nat.reduceBNe,reduceCtorEq,if_true,if_false,reduceIte,forall_const,IntKind.bits,IntKind.signed,eq_self_iff_true,finalOf,resultOf,cellsGood,AC.isCell,senv_mem,lift, Tryz.f17, hnt]
    · constructor
      · intro h; cases h
      · rintro ⟨p, hp, _⟩
        exact absurd hp (hno p)
  · rw [Nat.zero_add] at hf
    rw [hf]
    rcases hTab.top with ⟨h, _⟩ | ⟨t, tc, rfl, ht1, htc, htl⟩
    · omega
    have htck := htc k hk
    obtain ⟨rc, hrow1, hrow2⟩ := hTab.rows k hk
    have hrow3 := hrow2 0 (Nat.zero_le _)
    obtain ⟨hmk, hml⟩ := hTab.mks k 0 hk (Nat.zero_le _)
    have hpos : ∀ x, (M k 0)[x]? = some true ↔ Der g s utf name 0 x := fun x => by
      rw [← hder]
      constructor
      · intro h; exact ⟨k, hf, hk, h⟩
      · rintro ⟨i, h1, h2, h3⟩
        rw [hf] at h1
        rw [show k = i by omega]; exact h3
    generalize hbs : M k 0 = bs at hmk hml hpos
    have htn := (hl2 _ _ ht1).1
    have hrn := (hl2 _ _ hrow1).1
    have hmn := (hl2 _ _ hmk).1
    have hnn := (hl2 _ _ hSR).1
    unfold SR at hSR
    have hkk : (k : Int) ≥ 0 := by omega
    have hkk0 : (0 : Int) ≤ (k : Int) := by omega
    have hkg : (k : Int) < (g.length : Int) := by omega
    have hz1 : (0 : Int) < ((s.length + 1 : Nat) : Int) := by omega
    have t0 : Int.toNat 0 = 0 := rfl
    simp +decide -implicitDefEqProofs only [stp,code_seq,evWanted,evOp,val,absV,evBin,evConv,evBuiltin,cmpInt,vals,partsOf,isAggD,cellsOf,isAggV,Nat.reduceEqDiff,Nat.reduceLT,Nat.reduceBEq,Nat.reduceBNe,reduceCtorEq,if_true,if_false,reduceIte,forall_const,IntKind.bits,IntKind.signed,eq_self_iff_true,finalOf,resultOf,cellsGood,AC.isCell,senv_mem,lift, lty3,lty4,lty5,lty9,lty22,lty33,lty25,lty34,lty23,lty36,lty40,lty98,lty96,lty93,lty95,lty54,lty38,lty31, lenv_mem, none1, hnt, g0, g1, g2, g9]
    refine code_loop lenv_ok none1_ok (fun q sl d' n' => sl.nt = 115 ∧ Adds n3 d3 d' ∧ n3 ≤ n' ∧ ∃ i : Nat, i + q = s.length + 1 ∧ sl.get 2 = .c (.str s) ∧ sl.get 9 = .c (.ptr n 0) ∧ sl.get 17 = .c (.int .i64 k) ∧ sl.get 18 = .c (.int .i64 i) ∧ IntRow d' n3 (sl.get 16) (posL bs i)) (s.length + 1) ?_ ?_
    · refine ⟨by simp only [nt_put, hnt], Adds.refl _ _, Nat.le_refl _, 0, by omega, ?_⟩
      simp +decide -implicitDefEqProofs only [stp,code_seq,evWanted,evOp,val,absV,evBin,evConv,evBuiltin,cmpInt,vals,partsOf,isAggD,cellsOf,isAggV,Nat.reduceEqDiff,Nat.reduceLT,Nat.reduceBEq,Nat.reduceBNe,reduceCtorEq,if_true,if_false,reduceIte,forall_const,IntKind.bits,IntKind.signed,eq_self_iff_true,finalOf,resultOf,cellsGood,AC.isCell,senv_mem,lift, hnt, g2, g9]
      exact ⟨rfl, .inl ⟨rfl, rfl⟩⟩
    clear hnt g0 g1 g2 g9
    rintro q sl d4 n4 ⟨hnt, hA4, hn4, i, hiq, g2, g9, g17, g18, hrow⟩ hl4 hs4 Q2 hO1 hO2
    have hSR4 := (hA4.keeps n hnn).trans hSR
    have ht4 := (hA4.keeps t htn).trans ht1
    have hr4 := (hA4.keeps (row k) hrn).trans hrow1
    have hm4 := (hA4.keeps (mk k 0) hmn).trans hmk
    by_cases h1 : (i : Int) ≤ s.length
    · obtain ⟨x, hx⟩ : ∃ x, bs[i]? = some x := ⟨_, List.getElem?_eq_getElem (by rw [hml]; omega)⟩
      have hxc := mksC_get hx
      have hsu := posL_succ hx
      have hpl := posL_len bs i
      have hi0 : (0 : Int) ≤ (i : Int) := by omega
      have hi1 : (i : Int) < ((s.length + 1 : Nat) : Int) := by omega
      cases x with
      | false =>
        simp +decide -implicitDefEqProofs only [stp,code_seq,evWanted,evOp,val,absV,evBin,evConv,evBuiltin,cmpInt,vals,partsOf,isAggD,cellsOf,isAggV,Nat.reduceEqDiff,Nat.reduceLT,Nat.reduceBEq,Nat.reduceBNe,reduceCtorEq,if_true,if_false,reduceIte,forall_const,IntKind.bits,IntKind.signed,eq_self_iff_true,finalOf,resultOf,cellsGood,AC.isCell,senv_mem,lift, lty3,lty4,lty5,lty9,lty22,lty33,lty25,lty34,lty23,lty36,lty40,lty98,lty96,lty93,lty95,lty54,lty38,lty31, lenv_mem, none1, hnt, g2, g9, g17, g18, h1, hkk, hkk0, hkg, hSR4, ht4, htck, hr4, hrow3, hm4, hz1, t0, hi0, hi1, Int.toNat_natCast, hxc]
        refine hO1 (q - 1) _ _ _ (by omega) ⟨by simp only [nt_put, hnt], hA4, hn4, i + 1, by omega, ?_⟩
        simp +decide -implicitDefEqProofs only [stp,code_seq,evWanted,evOp,val,absV,evBin,evConv,evBuiltin,cmpInt,vals,partsOf,isAggD,cellsOf,isAggV,Nat.reduceEqDiff,Nat.reduceLT,Nat.reduceBEq,Nat.reduceBNe,reduceCtorEq,if_true,if_false,reduceIte,forall_const,IntKind.bits,IntKind.signed,eq_self_iff_true,finalOf,resultOf,cellsGood,AC.isCell,senv_mem,lift, hnt, g2, g9, g17]
        rw [wrap_succ (by omega), hsu]
        exact ⟨rfl, by simpa using hrow⟩
      | true =>
        rw [if_pos rfl] at hsu
        rcases hrow with ⟨hw, g16⟩ | ⟨hw, jb, hjb, g16, hgj⟩
        · have e1 : True := trivial
          have e2 : True := trivial
          have e3 : True := trivial
          have e4 : True := trivial
          have hgj : True := trivial
          simp +decide -implicitDefEqProofs only [stp,code_seq,evWanted,evOp,val,absV,evBin,evConv,evBuiltin,cmpInt,vals,partsOf,isAggD,cellsOf,isAggV,Nat.reduceEqDiff,Nat.reduceLT,Nat.reduceBEq,Nat.reduceBNe,reduceCtorEq,if_true,if_false,reduceIte,forall_const,IntKind.bits,IntKind.signed,eq_self_iff_true,finalOf,resultOf,cellsGood,AC.isCell,senv_mem,lift, spliceAll,allFields,places,splice,List.take_zero,List.take_succ_cons,List.take_nil,List.drop_zero,List.drop_succ_cons,List.drop_nil,List.nil_append,List.append_nil,List.cons_append,List.all_cons,List.all_nil,Option.isSome_some,Nat.reduceAdd,Nat.reduceSub,Nat.reduceMul,Nat.reduceMod,Nat.reduceLeDiff,List.range,List.range.loop,List.map_cons,List.map_nil,pfind, lty3,lty4,lty5,lty9,lty22,lty33,lty25,lty34,lty23,lty36,lty40,lty98,lty96,lty93,lty95,lty54,lty38,lty31, lenv_mem, none1, hnt, g2, g9, g16, g17, g18, h1, hkk, hkk0, hkg, hSR4, ht4, htck, hr4, hrow3, hm4, hz1, t0, hi0, hi1, Int.toNat_natCast, hxc, evAppend, hgj, e1, e2, e3, e4]
          refine hO1 (q - 1) _ _ _ (by omega) ⟨by simp only [nt_put, hnt], ?_, by omega, i + 1, by omega, ?_⟩
          · first
            | exact (hA4.cons (by omega)).cons (by omega)
            | exact ((hA4.cons (by omega)).cons (by omega)).cons (by omega)
          simp +decide -implicitDefEqProofs only [stp,code_seq,evWanted,evOp,val,absV,evBin,evConv,evBuiltin,cmpInt,vals,partsOf,isAggD,cellsOf,isAggV,Nat.reduceEqDiff,Nat.reduceLT,Nat.reduceBEq,Nat.reduceBNe,reduceCtorEq,if_true,if_false,reduceIte,forall_const,IntKind.bits,IntKind.signed,eq_self_iff_true,finalOf,resultOf,cellsGood,AC.isCell,senv_mem,lift, hnt, g2, g9, g17]
          rw [wrap_succ (by omega), hsu]
          exact ⟨rfl, .inr ⟨by simp, n4 + 1, by omega, by simp [hw], by rw [get_cons, if_pos rfl]; simp [intsC, hw]⟩⟩
        · have e1 : ¬ n4 = jb := by have := (hl4 jb _ hgj).1; omega
          have e2 : (jb == n4) = false := by simpa using fun e => e1 (Eq.symm e)
          have e3 : (intsC (posL bs i)).length = (posL bs i).length := by simp [intsC]
          have e4 : ¬ (posL bs i).length > 100000 := by omega
          simp +decide -implicitDefEqProofs only [stp,code_seq,evWanted,evOp,val,absV,evBin,evConv,evBuiltin,cmpInt,vals,partsOf,isAggD,cellsOf,isAggV,Nat.reduceEqDiff,Nat.reduceLT,Nat.reduceBEq,Nat.reduceBNe,reduceCtorEq,if_true,if_false,reduceIte,forall_const,IntKind.bits,IntKind.signed,eq_self_iff_true,finalOf,resultOf,cellsGood,AC.isCell,senv_mem,lift, spliceAll,allFields,places,splice,List.take_zero,List.take_succ_cons,List.take_nil,List.drop_zero,List.drop_succ_cons,List.drop_nil,List.nil_append,List.append_nil,List.cons_append,List.all_cons,List.all_nil,Option.isSome_some,Nat.reduceAdd,Nat.reduceSub,Nat.reduceMul,Nat.reduceMod,Nat.reduceLeDiff,List.range,List.range.loop,List.map_cons,List.map_nil,pfind, lty3,lty4,lty5,lty9,lty22,lty33,lty25,lty34,lty23,lty36,lty40,lty98,lty96,lty93,lty95,lty54,lty38,lty31, lenv_mem, none1, hnt, g2, g9, g16, g17, g18, h1, hkk, hkk0, hkg, hSR4, ht4, htck, hr4, hrow3, hm4, hz1, t0, hi0, hi1, Int.toNat_natCast, hxc, evAppend, hgj, e1, e2, e3, e4]
          refine hO1 (q - 1) _ _ _ (by omega) ⟨by simp only [nt_put, hnt], ?_, by omega, i + 1, by omega, ?_⟩
          · first
            | exact (hA4.cons (by omega)).cons (by omega)
            | exact ((hA4.cons (by omega)).cons (by omega)).cons (by omega)
          simp +decide -implicitDefEqProofs only [stp,code_seq,evWanted,evOp,val,absV,evBin,evConv,evBuiltin,cmpInt,vals,partsOf,isAggD,cellsOf,isAggV,Nat.reduceEqDiff,Nat.reduceLT,Nat.reduceBEq,Nat.reduceBNe,reduceCtorEq,if_true,if_false,reduceIte,forall_const,IntKind.bits,IntKind.signed,eq_self_iff_true,finalOf,resultOf,cellsGood,AC.isCell,senv_mem,lift, hnt, g2, g9, g17]
          rw [wrap_succ (by omega), hsu]
          exact ⟨rfl, .inr ⟨by simp, n4 + 1, by omega, by simp [hw], by rw [get_cons, if_pos rfl]; simp [intsC, hw]⟩⟩
    · have hi : i = s.length + 1 := by omega
      subst hi
      simp +decide -implicitDefEqProofs only [stp,code_seq,evWanted,evOp,val,absV,evBin,evConv,evBuiltin,cmpInt,vals,partsOf,isAggD,cellsOf,isAggV,Nat.reduceEqDiff,Nat.reduceLT,Nat.reduceBEq,Nat.reduceBNe,reduceCtorEq,if_true,if_false,reduceIte,forall_const,IntKind.bits,IntKind.signed,eq_self_iff_true,finalOf,resultOf,cellsGood,AC.isCell,senv_mem,lift, lty3,lty4,lty5,lty9,lty22,lty33,lty25,lty34,lty23,lty36,lty40,lty98,lty96,lty93,lty95,lty54,lty38,lty31, lenv_mem, none1, hnt, g2, g9, g17, g18, h1]
      refine hO2 _ _ _ _ (by simp) ?_
      obtain ⟨y, g16, hin⟩ : ∃ y, sl.get 16 = .c y ∧ IntRow d4 n3 (.c y) (posL bs (s.length + 1)) := by
        rcases hrow with ⟨hw, g16⟩ | ⟨hw, jb, hjb, g16, hgj⟩
        · exact ⟨_, g16, .inl ⟨hw, rfl⟩⟩
        · exact ⟨_, g16, .inr ⟨hw, jb, hjb, rfl, hgj⟩⟩
      simp +decide -implicitDefEqProofs only [stp,code_seq,evWanted,evOp,val,absV,evBin,evConv,evBuiltin,cmpInt,vals,partsOf,isAggD,cellsOf,isAggV,Nat.reduceEqDiff,Nat.reduceLT,Nat.reduceBEq,Nat.reduceBNe,reduceCtorEq,if_true,if_false,reduceIte,forall_const,IntKind.bits,IntKind.signed,eq_self_iff_true,finalOf,resultOf,cellsGood,AC.isCell,senv_mem,lift, lty3,lty4,lty5,lty9,lty22,lty33,lty25,lty34,lty23,lty36,lty40,lty98,lty96,lty93,lty95,lty54,lty38,lty31, lenv_mem, none1, hnt, g2, g9, g16, g17, g18]
      refine hQ _ _ _ _ (.c y) (by simp) ?_ ⟨posL bs (s.length + 1), posL_ends hml hpos, ?_, hA2.trans hA4 (by omega)⟩
      · simp +decide -implicitDefEqProofs only [stp,code_seq,evWanted,evOp,val,absV,evBin,evConv,evBuiltin,cmpInt,vals,partsOf,isAggD,cellsOf,isAggV,Nat.reduceEqDiff,Nat.reduceLT,Nat.reduceBEq,Nat.reduceBNe,reduceCtorEq,if_true,if_false,reduceIte,forall_const,IntKind.bits,IntKind.signed,eq_self_iff_true,finalOf,resultOf,cellsGood,AC.isCell,senv_mem,lift, Tryz.f17, hnt]
      · rcases hin with ⟨hw, h⟩ | ⟨hw, jb, hjb, h, hgj⟩
        · exact .inl ⟨hw, h⟩
        · exact .inr ⟨hw, jb, by omega, h, hgj⟩

end Go.Proofs.YtdpielghjaehbaaGreat.Ev

/- regletlaw06.fine: true of any grammar. -/
set_option linter.unusedSectionVars false
set_option linter.unusedSimpArgs false
set_option linter.unusedVariables false
namespace Go.Proofs.YtdpielghjaehbaaGreat.Ev
open Go.RowKit

/-- sense.Ends, at a grammar in the memory. -/
theorem l_endsR {w0 : World} {Bx B0 : Nat} {v0 : Value} {g : List Ru} {name s : List UInt8} {utf : Bool} {NM : List (List UInt8)} (hv : RulesAt w0 Bx v0 g) (hg : g.length < 1000) (hwf : ∀ r ∈ g, wfEx NM r.ex = true) (hname : name ∈ NM) (hs0 : s.length < 1000) (hNM : NM.length ≤ 1000) (d : Seg) (n : Nat) :
    CallsA Tryz.prog (lenv (memOf w0)) B0 15 [.c (lift v0), .c (.str name), .c (.str s), .c (.bool utf)] d n fun v d' n' => ∃ l, EndsAre g s name utf l ∧ IntRow d' n v l ∧ Adds n d d' := by
  have hbig : NM.length * (s.length + 1) ≤ 1000000000000 := Nat.le_trans (Nat.mul_le_mul hNM (show s.length + 1 ≤ 1000 by omega)) (by decide)
  refine (callsA_import' (R := fun v δ n0 => ∃ l, EndsAre g s name utf l ∧ IntRow δ 0 v l) fun al ρ w hrep hargs => ?_).mono ?_
  · refine ⟨senv (memOf w0), [.c (lift v0), .c (.str name), .c (.str s), .c (.bool utf)], lenv_senv, fun b o v hv => (hrep.mem b o v hv).2, ?_, ?_, ?_⟩
    · intro y hy
      simp only [List.mem_cons, List.not_mem_nil, or_false] at hy
      rcases hy with rfl | rfl | rfl | rfl
      · exact ok_lift _ _
      · trivial
      · trivial
      · trivial
    · simp only [List.map_cons, List.map_nil, concV, conc_lift]
      rfl
    · exact (ends_abs (utf := utf) hv (by omega) hwf hname (by omega) hbig).mono fun v d' n' ⟨l, h1, h2, h3⟩ _ _ _ => ⟨l, ⟨h1, h2⟩, h3⟩
  · rintro v d' n' ⟨v0, δ, n0, ⟨l, h1, h2⟩, rfl, rfl, rfl, hl, _, _⟩ _ hle _
    exact ⟨l, h1, intRow_import (n0 := n0) hl h2, adds_import⟩

theorem l_sameA {mem : Nat → Nat → Option Value} {B0 : Nat} {d : Seg} {n : Nat} {x1 x2 : AC} {l1 l2 : List Int} (h1 : IntIn d x1 l1) (h2 : IntIn d x2 l2) (hb : l1.length < 4611686018427387904) :
    CallsA Tryz.prog (lenv mem) B0 14 [.c x1, .c x2] d n fun v d' n' => v = .c (.bool (decide (l1 = l2))) ∧ Adds n d d' := by
  refine (callsA_import' (R := fun v δ n0 => v = .c (.bool (decide (l1 = l2)))) fun al ρ w hrep hargs => ?_).mono ?_
  · refine ⟨senv (memOf w), [.c (lift (conc ρ x1)), .c (lift (conc ρ x2))], lenv_senv, fun b o v hv => hv, ?_, ?_, ?_⟩
    · intro y hy
      simp only [List.mem_cons, List.not_mem_nil, or_false] at hy
      rcases hy with rfl | rfl <;> exact ok_lift _ _
    · simp only [List.map_cons, List.map_nil, lift_conc]
      rfl
    · exact (same_abs (rawInts_of (intIn_at hrep h1)) (rawInts_of (intIn_at hrep h2)) hb [] 0).mono fun v d' n' ⟨_, h⟩ _ _ _ => h
  · rintro v d' n' ⟨v0, δ, n0, rfl, rfl, rfl, rfl, hl, _, _⟩ _ hle _
    exact ⟨rfl, adds_import⟩

open Classical in
/-- The ends. -/
noncomputable def endsU (g : List Ru) (s nm : List UInt8) (utf : Bool) : List Int := if h : ∃ l, EndsAre g s nm utf l then h.choose else []

theorem endsU_of {g : List Ru} {s nm : List UInt8} {utf : Bool} {l : List Int} (h : EndsAre g s nm utf l) : endsU g s nm utf = l := by
  have h1 : ∃ l, EndsAre g s nm utf l := ⟨l, h⟩
  unfold endsU
  rw [dif_pos h1]
  exact endsAre_uniq h1.choose_spec h

open Classical in
theorem endsU_ex (g : List Ru) (s nm : List UInt8) (utf : Bool) : EndsAre g s nm utf (endsU g s nm utf) := by
  have h : EndsAre g s nm utf (((List.range (s.length + 1)).filter fun p => decide (Der g s utf nm 0 p)).map fun (p : Nat) => (p : Int)) := by
    constructor
    · rw [List.pairwise_map]
      refine (List.Pairwise.filter _ List.pairwise_lt_range).imp ?_
      intro a b hab
      omega
    · intro x
      simp only [List.mem_map, List.mem_filter, List.mem_range, decide_eq_true_eq]
      constructor
      · rintro ⟨p, ⟨_, h⟩, rfl⟩
        exact ⟨p, h, rfl⟩
      · rintro ⟨p, h, rfl⟩
        have := der_le h (Nat.zero_le _)
        exact ⟨p, ⟨by omega, h⟩, rfl⟩
  rw [endsU_of h]
  exact h

/-- No rule: no ends. -/
theorem ends_none {g : List Ru} {s nm : List UInt8} {utf : Bool} {l : List Int} (h : EndsAre g s nm utf l) (hno : ruleOf nm g = none) : l = [] := by
  apply List.eq_nil_iff_forall_not_mem.2
  intro x hx
  obtain ⟨p, hp, _⟩ := (h.2 x).1 hx
  refine hp (fun nm' a x => nm' ≠ nm) ?_ rfl
  intro nm' e a x hr _ he
  rw [he, hno] at hr
  cases hr

/-- A call that makes a row of numbers, as known ahead. -/
noncomputable def callRow (f : Nat) (args : List AV) (l : List Int) : CallF := by
  classical exact fun f' args' B d n => if f' = f ∧ args' = args then some (.c (rowV n l), (n, rowO l) :: d, n + 1) else none

theorem callRow_eq {f : Nat} {args : List AV} {l : List Int} {B : List Seg} {d : Seg} {n : Nat} : callRow f args l f args B d n = some (.c (rowV n l), (n, rowO l) :: d, n + 1) := by
  exact if_pos ⟨rfl, rfl⟩
theorem row_other {f f' : Nat} {args args' : List AV} {l : List Int} {B : List Seg} {d : Seg} {n : Nat} (h : f' ≠ f) : callRow f args l f' args' B d n = none := by
  exact if_neg fun h' => h h'.1

theorem callRow_ok {P : Program} {E : Env} {B0 f : Nat} {args : List AV} {l : List Int} (hc : ∀ d n, CallsA P E B0 f args d n fun v d' n' => IntRow d' n v l ∧ Adds n d d') : CallOk P E B0 (callRow f args l) := by
  intro f' args' B d n v d' n' al ρ w hcall hrep hargs
  unfold callRow at hcall
  split at hcall <;> cases hcall
  rename_i hcond
  obtain ⟨rfl, rfl⟩ := hcond
  obtain ⟨h1, h2⟩ := hc (d ++ B.flatten) n al ρ w (hrep.congrH fun i => get_flatten d B i) hargs
  refine ⟨h1, h2.mono ?_⟩
  rintro e w' ⟨v, D, m, δ, ρ', al', ⟨hrow, ⟨δ2, hD, hδ⟩⟩, hd, hst, hok, rfl⟩
  have : δ2 = δ := List.append_cancel_right (hD.symm.trans hd)
  subst this
  subst hD
  have hb := step_new_below hst hδ
  rcases hrow with ⟨rfl, rfl⟩ | ⟨h0, j, hj, rfl, hget⟩
  · exact ⟨[(n, none)], ρ, fun i => al i ∨ i = n, rfl, step_gone hrep hb, trivial, rfl⟩
  · obtain ⟨blk, hb1, hb2⟩ := hst.rep.obj j _ hget
    have hnew : w.heap.size ≤ (ρ' j).1 := by
      rcases hst.newb j _ hj hget with h | ⟨i, ⟨o', ho'⟩, hi, _⟩
      · exact h
      · simp only at hi
        rw [look_none hδ hi] at ho'
        cases ho'
    have ho : (AObj.cells 3 (intsC l)).plain = true := by
      simp only [AObj.plain, intsC, List.all_map]
      exact List.all_eq_true.2 fun x _ => rfl
    have hs := step_fresh hrep (.cells 3 (intsC l)) (plain_okO ho) blk (ρ' j).2 (plain_blk ho hb2) (ρ' j).1 hnew hb hb1
    rw [show rowO l = some (.cells 3 (intsC l)) from if_neg h0, show rowV n l = .sl n l.length from if_neg h0]
    refine ⟨[(n, some (.cells 3 (intsC l)))], _, _, rfl, hs, .inr rfl, ?_⟩
    simp only [concV, conc, if_true]

set_option maxRecDepth 20000 in
set_option maxHeartbeats 4000000 in
theorem fine_ok {w0 : World} {Bx B0 : Nat} {v0 : Value} {g : List Ru} {s : List UInt8} {utf : Bool} {NM : List (List UInt8)} {d : Seg} {n : Nat} (hv : RulesAt w0 Bx v0 g) (hgl : g.length < 1000) (hwf : ∀ r ∈ g, wfEx NM r.ex = true) (hnm : ∀ r ∈ g, r.name ∈ NM) (hda : [45] ∈ NM) (hno : ruleOf [45] g = none) (hs0 : s.length < 1000) (hNM : NM.length ≤ 1000) :
    CallsA Tryz.prog (lenv (memOf w0)) B0 9 [.c (lift v0), .c (.str s), .c (.bool utf)] d n fun v d' n' => v = .c (.bool true) := by
  refine callsA_code lenv_ok none1_ok Tryz.func9 rfl (by decide) rfl rfl (by simp) fun hl _ Q hQ => ?_
  obtain ⟨G, hG⟩ : ∃ G, lift v0 = G := ⟨_, rfl⟩
  have hE1 := fun nm (h : nm ∈ NM) d n => l_endsR (B0 := B0) (utf := utf) hv hgl hwf h hs0 hNM d n
  have hE2 := fun (nm : List UInt8) d n => refEnds_ok (B0 := B0) (name := nm) (utf := utf) (d := d) (n := n) hv hgl hwf hs0
  have hGc : (G = .sl0 ∧ g = []) ∨ ∃ b cap, G = .raw (.slice (some ⟨b, 0, none⟩) g.length cap) ∧ ∀ i r, g[i]? = some r → memOf w0 b (i * 7) = some (.string ⟨r.name.toArray⟩) := by
    rcases hv with ⟨rfl, rfl⟩ | ⟨b, cap, _, rfl, hrs⟩
    · exact .inl ⟨hG.symm, rfl⟩
    · refine .inr ⟨b, cap, hG.symm.trans rfl, fun i r hr => ?_⟩
      obtain ⟨cs, c1, c2, c3⟩ := RuAt.get g b 0 i r hrs hr
      rw [Nat.zero_add] at c1
      exact c1
  rw [hG] at hE1 hE2 ⊢
  simp +decide -implicitDefEqProofs only [stp,code_seq,evWanted,evOp,val,absV,evBin,evConv,evBuiltin,cmpInt,vals,partsOf,isAggD,cellsOf,isAggV,Nat.reduceEqDiff,Nat.reduceLT,Nat.reduceBEq,Nat.reduceBNe,reduceCtorEq,if_true,if_false,reduceIte,forall_const,IntKind.bits,IntKind.signed,eq_self_iff_true,finalOf,resultOf,cellsGood,AC.isCell,senv_mem,lift, spliceAll,allFields,places,splice,List.take_zero,List.take_succ_cons,List.take_nil,List.drop_zero,List.drop_succ_cons,List.drop_nil,List.nil_append,List.append_nil,List.cons_append,List.all_cons,List.all_nil,Option.isSome_some,Nat.reduceAdd,Nat.reduceSub,Nat.reduceMul,Nat.reduceMod,Nat.reduceLeDiff,List.range,List.range.loop,List.map_cons,List.map_nil,pfind, Tryz.f9, lty3,lty4,lty5,lty9,lty22,lty33,lty25,lty34,lty23,lty36,lty40,lty98,lty96,lty93,lty95,lty54,lty38,lty31, lenv_mem, none1]
  refine code_loop lenv_ok none1_ok (fun q sl d' n' => sl.nt = 40 ∧ ∃ i : Nat, i + q = g.length ∧ sl.get 0 = .c G ∧ sl.get 1 = .c (.str s) ∧ sl.get 2 = .c (.bool utf) ∧ sl.get 7 = .c (.int .i64 i)) g.length ?_ ?_
  · refine ⟨by simp only [nt_put], 0, by omega, ?_⟩
    simp +decide -implicitDefEqProofs only [stp,code_seq,evWanted,evOp,val,absV,evBin,evConv,evBuiltin,cmpInt,vals,partsOf,isAggD,cellsOf,isAggV,Nat.reduceEqDiff,Nat.reduceLT,Nat.reduceBEq,Nat.reduceBNe,reduceCtorEq,if_true,if_false,reduceIte,forall_const,IntKind.bits,IntKind.signed,eq_self_iff_true,finalOf,resultOf,cellsGood,AC.isCell,senv_mem,lift]
    rfl
  rintro q sl d1 n1 ⟨hnt, i, hiq, g0, g1, g2, g7⟩ hl1 hs1 Q' hQ1 hQ2
  by_cases h1 : (i : Int) < g.length
  · rcases hGc with ⟨_, rfl⟩ | ⟨b, cap, rfl, hmem⟩
    · simp at h1; omega
    obtain ⟨r, hr⟩ : ∃ r, g[i]? = some r := ⟨_, List.getElem?_eq_getElem (by omega)⟩
    have hm := hmem i r hr
    have hin := hnm r (List.mem_of_getElem? hr)
    have hi0 : (0 : Int) ≤ (i : Int) := by omega
    have hE1 := hE1 r.name hin
    have hE2 := hE2 r.name
    obtain ⟨L, hL⟩ : ∃ L, endsU g s r.name utf = L := ⟨_, rfl⟩
    have hc1 : CallOk Tryz.prog (lenv (memOf w0)) B0 (callRow 15 [.c (.raw (.slice (some ⟨b, 0, none⟩) g.length cap)), .c (.str r.name), .c (.str s), .c (.bool utf)] L) := callRow_ok fun d n => (hE1 d n).mono fun v d' n' ⟨l, a1, a2, a3⟩ _ _ _ => by
      rw [← hL, endsU_of a1]; exact ⟨a2, a3⟩
    have hc2 : CallOk Tryz.prog (lenv (memOf w0)) B0 (callRow 17 [.c (.raw (.slice (some ⟨b, 0, none⟩) g.length cap)), .c (.str r.name), .c (.str s), .c (.bool utf)] L) := callRow_ok fun d n => (hE2 d n).mono fun v d' n' ⟨l, a1, a2, a3⟩ _ _ _ => by
      rw [← hL, endsU_of a1]; exact ⟨a2, a3⟩
    have hLl : L.length < 4611686018427387904 := by
      have := endsAre_len (endsU_ex g s r.name utf)
      rw [hL] at this
      omega
    have hc3 : CallOk Tryz.prog (lenv (memOf w0)) B0 (callLook 14 n1 (n1 + 1) [.c (rowV n1 L), .c (rowV (n1 + 1) L)] (rowO L) (rowO L) (.bool true)) := callLook_ok rfl fun d n q1 q2 => (l_sameA (rowIn q1) (rowIn q2) hLl).mono fun v d' n' ⟨a1, a2⟩ _ _ _ => by
      rw [decide_eq_true rfl] at a1; exact ⟨a1, a2⟩
    have hcO := callOr_ok (callOr_ok hc1 hc2) hc3
    have hF1 : ∀ B m, callOr (callOr (callRow 15 [.c (.raw (.slice (some ⟨b, 0, none⟩) g.length cap)), .c (.str r.name), .c (.str s), .c (.bool utf)] L) (callRow 17 [.c (.raw (.slice (some ⟨b, 0, none⟩) g.length cap)), .c (.str r.name), .c (.str s), .c (.bool utf)] L)) (callLook 14 n1 (n1 + 1) [.c (rowV n1 L), .c (rowV (n1 + 1) L)] (rowO L) (rowO L) (.bool true)) 15 [.c (.raw (.slice (some ⟨b, 0, none⟩) g.length cap)), .c (.str r.name), .c (.str s), .c (.bool utf)] B [] m = some (.c (rowV m L), [(m, rowO L)], m + 1) := fun B m => callOr_l (callOr_l callRow_eq)
    have hF2 : ∀ B m, callOr (callOr (callRow 15 [.c (.raw (.slice (some ⟨b, 0, none⟩) g.length cap)), .c (.str r.name), .c (.str s), .c (.bool utf)] L) (callRow 17 [.c (.raw (.slice (some ⟨b, 0, none⟩) g.length cap)), .c (.str r.name), .c (.str s), .c (.bool utf)] L)) (callLook 14 n1 (n1 + 1) [.c (rowV n1 L), .c (rowV (n1 + 1) L)] (rowO L) (rowO L) (.bool true)) 17 [.c (.raw (.slice (some ⟨b, 0, none⟩) g.length cap)), .c (.str r.name), .c (.str s), .c (.bool utf)] B [] m = some (.c (rowV m L), [(m, rowO L)], m + 1) := fun B m => callOr_l ((callOr_r (row_other (by decide))).trans callRow_eq)
    have hF3 : ∀ B m, get ([] :: B) n1 = rowO L → get ([] :: B) (n1 + 1) = rowO L → callOr (callOr (callRow 15 [.c (.raw (.slice (some ⟨b, 0, none⟩) g.length cap)), .c (.str r.name), .c (.str s), .c (.bool utf)] L) (callRow 17 [.c (.raw (.slice (some ⟨b, 0, none⟩) g.length cap)), .c (.str r.name), .c (.str s), .c (.bool utf)] L)) (callLook 14 n1 (n1 + 1) [.c (rowV n1 L), .c (rowV (n1 + 1) L)] (rowO L) (rowO L) (.bool true)) 14 [.c (rowV n1 L), .c (rowV (n1 + 1) L)] B [] m = some (.c (.bool true), [], m) := fun B m q1 q2 => (callOr_r ((callOr_r (row_other (by decide))).trans (row_other (by decide)))).trans (callLook_eq q1 q2)
    obtain ⟨cl, hcle⟩ : ∃ cl, callOr (callOr (callRow 15 [.c (.raw (.slice (some ⟨b, 0, none⟩) g.length cap)), .c (.str r.name), .c (.str s), .c (.bool utf)] L) (callRow 17 [.c (.raw (.slice (some ⟨b, 0, none⟩) g.length cap)), .c (.str r.name), .c (.str s), .c (.bool utf)] L)) (callLook 14 n1 (n1 + 1) [.c (rowV n1 L), .c (rowV (n1 + 1) L)] (rowO L) (rowO L) (.bool true)) = cl := ⟨_, rfl⟩
    rw [hcle] at hcO hF1 hF2 hF3
    clear hc1 hc2 hc3 hcle hE1 hE2 hL
    generalize r.name = nm at hm hF1 hF2
    have z1 : ¬ n1 + 1 = n1 := by omega
    simp +decide -implicitDefEqProofs only [stp,code_seq,evWanted,evOp,val,absV,evBin,evConv,evBuiltin,cmpInt,vals,partsOf,isAggD,cellsOf,isAggV,Nat.reduceEqDiff,Nat.reduceLT,Nat.reduceBEq,Nat.reduceBNe,reduceCtorEq,if_true,if_false,reduceIte,forall_const,IntKind.bits,IntKind.signed,eq_self_iff_true,finalOf,resultOf,cellsGood,AC.isCell,senv_mem,lift, lty3,lty4,lty5,lty9,lty22,lty33,lty25,lty34,lty23,lty36,lty40,lty98,lty96,lty93,lty95,lty54,lty38,lty31, lenv_mem, none1, hnt, g0, g1, g2, g7, h1]
    apply code_drawn2 lenv_ok hcO (by decide) _ (by rfl)
    · simp +decide -implicitDefEqProofs only [stp,code_seq,evWanted,evOp,val,absV,evBin,evConv,evBuiltin,cmpInt,vals,partsOf,isAggD,cellsOf,isAggV,Nat.reduceEqDiff,Nat.reduceLT,Nat.reduceBEq,Nat.reduceBNe,reduceCtorEq,if_true,if_false,reduceIte,forall_const,IntKind.bits,IntKind.signed,eq_self_iff_true,finalOf,resultOf,cellsGood,AC.isCell,senv_mem,lift, flat,d_nil,d_cons,d_true,d_false,d_some,d_some1,slotsAt_get,slotsAt_nt,get_mk_cons,get_mk,wrs_nil,wrs_cons,wrs_none,get_heapAt,get_seen_nil,get_seen_cons,get_seen_one,List.cons_append,List.nil_append,Nat.reduceSub,Nat.reduceAdd,Nat.add_one_sub_one,bitOf, lty3,lty4,lty5,lty9,lty22,lty33,lty25,lty34,lty23,lty36,lty40,lty98,lty96,lty93,lty95,lty54,lty38,lty31, lenv_mem, hnt, g0, g1, g2, g7, h1, hi0, Int.toNat_natCast, hm, Nat.add_zero, Nat.zero_add, hF1, hF2, hF3, z1]
      rfl
    · simp +decide [laters, laterIds, subAll, subIds]
    · simp +decide -implicitDefEqProofs only [stp,code_seq,evWanted,evOp,val,absV,evBin,evConv,evBuiltin,cmpInt,vals,partsOf,isAggD,cellsOf,isAggV,Nat.reduceEqDiff,Nat.reduceLT,Nat.reduceBEq,Nat.reduceBNe,reduceCtorEq,if_true,if_false,reduceIte,forall_const,IntKind.bits,IntKind.signed,eq_self_iff_true,finalOf,resultOf,cellsGood,AC.isCell,senv_mem,lift, flat,d_nil,d_cons,d_true,d_false,d_some,d_some1,slotsAt_get,slotsAt_nt,get_mk_cons,get_mk,wrs_nil,wrs_cons,wrs_none,get_heapAt,get_seen_nil,get_seen_cons,get_seen_one,List.cons_append,List.nil_append,Nat.reduceSub,Nat.reduceAdd,Nat.add_one_sub_one,bitOf, lty3,lty4,lty5,lty9,lty22,lty33,lty25,lty34,lty23,lty36,lty40,lty98,lty96,lty93,lty95,lty54,lty38,lty31, lenv_mem, none1, hnt, g0, g1, g2, g7]
      refine hQ1 (q - 1) _ _ _ (by omega) ⟨by simp only [nt_put, hnt], i + 1, by omega, ?_⟩
      simp +decide -implicitDefEqProofs only [stp,code_seq,evWanted,evOp,val,absV,evBin,evConv,evBuiltin,cmpInt,vals,partsOf,isAggD,cellsOf,isAggV,Nat.reduceEqDiff,Nat.reduceLT,Nat.reduceBEq,Nat.reduceBNe,reduceCtorEq,if_true,if_false,reduceIte,forall_const,IntKind.bits,IntKind.signed,eq_self_iff_true,finalOf,resultOf,cellsGood,AC.isCell,senv_mem,lift, flat,d_nil,d_cons,d_true,d_false,d_some,d_some1,slotsAt_get,slotsAt_nt,get_mk_cons,get_mk,wrs_nil,wrs_cons,wrs_none,get_heapAt,get_seen_nil,get_seen_cons,get_seen_one,List.cons_append,List.nil_append,Nat.reduceSub,Nat.reduceAdd,Nat.add_one_sub_one,bitOf, hnt, g0, g1, g2]
      rw [wrap_succ (by omega)]
  · rcases hGc with ⟨rfl, rfl⟩ | ⟨b, cap, rfl, hmem⟩
    · have h1 : ¬ (i : Int) < 0 := by omega
      simp +decide -implicitDefEqProofs only [stp,code_seq,evWanted,evOp,val,absV,evBin,evConv,evBuiltin,cmpInt,vals,partsOf,isAggD,cellsOf,isAggV,Nat.reduceEqDiff,Nat.reduceLT,Nat.reduceBEq,Nat.reduceBNe,reduceCtorEq,if_true,if_false,reduceIte,forall_const,IntKind.bits,IntKind.signed,eq_self_iff_true,finalOf,resultOf,cellsGood,AC.isCell,senv_mem,lift, lty3,lty4,lty5,lty9,lty22,lty33,lty25,lty34,lty23,lty36,lty40,lty98,lty96,lty93,lty95,lty54,lty38,lty31, lenv_mem, none1, hnt, g0, g1, g2, g7, h1]
      refine hQ2 _ _ _ _ (by simp) ?_
      simp +decide -implicitDefEqProofs only [stp,code_seq,evWanted,evOp,val,absV,evBin,evConv,evBuiltin,cmpInt,vals,partsOf,isAggD,cellsOf,isAggV,Nat.reduceEqDiff,Nat.reduceLT,Nat.reduceBEq,Nat.reduceBNe,reduceCtorEq,if_true,if_false,reduceIte,forall_const,IntKind.bits,IntKind.signed,eq_self_iff_true,finalOf,resultOf,cellsGood,AC.isCell,senv_mem,lift, lty3,lty4,lty5,lty9,lty22,lty33,lty25,lty34,lty23,lty36,lty40,lty98,lty96,lty93,lty95,lty54,lty38,lty31, lenv_mem, none1, hnt, g0, g1, g2, g7]
      refine call_mono (hE1 [45] hda d1 n1) fun v d2 n2 hR hl2 hle2 hok2 => ?_
      obtain ⟨l, a1, a2, a3⟩ := hR
      have hl := ends_none a1 hno
      subst hl
      rcases a2 with ⟨_, rfl⟩ | ⟨h0, _⟩
      · simp +decide -implicitDefEqProofs only [stp,code_seq,evWanted,evOp,val,absV,evBin,evConv,evBuiltin,cmpInt,vals,partsOf,isAggD,cellsOf,isAggV,Nat.reduceEqDiff,Nat.reduceLT,Nat.reduceBEq,Nat.reduceBNe,reduceCtorEq,if_true,if_false,reduceIte,forall_const,IntKind.bits,IntKind.signed,eq_self_iff_true,finalOf,resultOf,cellsGood,AC.isCell,senv_mem,lift, lty3,lty4,lty5,lty9,lty22,lty33,lty25,lty34,lty23,lty36,lty40,lty98,lty96,lty93,lty95,lty54,lty38,lty31, lenv_mem, none1, hnt]
        refine hQ _ _ _ _ (.c (.bool true)) (by simp) ?_ rfl
        simp +decide -implicitDefEqProofs only [stp,code_seq,evWanted,evOp,val,absV,evBin,evConv,evBuiltin,cmpInt,vals,partsOf,isAggD,cellsOf,isAggV,Nat.reduceEqDiff,Nat.reduceLT,Nat.reduceBEq,Nat.reduceBNe,reduceCtorEq,if_true,if_false,reduceIte,forall_const,IntKind.bits,IntKind.signed,eq_self_iff_true,finalOf,resultOf,cellsGood,AC.isCell,senv_mem,lift, Tryz.f9, hnt]
      · exact absurd rfl h0
    · skip
      simp +decide -implicitDefEqProofs only [stp,code_seq,evWanted,evOp,val,absV,evBin,evConv,evBuiltin,cmpInt,vals,partsOf,isAggD,cellsOf,isAggV,Nat.reduceEqDiff,Nat.reduceLT,Nat.reduceBEq,Nat.reduceBNe,reduceCtorEq,if_true,if_false,reduceIte,forall_const,IntKind.bits,IntKind.signed,eq_self_iff_true,finalOf,resultOf,cellsGood,AC.isCell,senv_mem,lift, lty3,lty4,lty5,lty9,lty22,lty33,lty25,lty34,lty23,lty36,lty40,lty98,lty96,lty93,lty95,lty54,lty38,lty31, lenv_mem, none1, hnt, g0, g1, g2, g7, h1]
      refine hQ2 _ _ _ _ (by simp) ?_
      simp +decide -implicitDefEqProofs only [stp,code_seq,evWanted,evOp,val,absV,evBin,evConv,evBuiltin,cmpInt,vals,partsOf,isAggD,cellsOf,isAggV,Nat.reduceEqDiff,Nat.reduceLT,Nat.reduceBEq,Nat.reduceBNe,reduceCtorEq,if_true,if_false,reduceIte,forall_const,IntKind.bits,IntKind.signed,eq_self_iff_true,finalOf,resultOf,cellsGood,AC.isCell,senv_mem,lift, lty3,lty4,lty5,lty9,lty22,lty33,lty25,lty34,lty23,lty36,lty40,lty98,lty96,lty93,lty95,lty54,lty38,lty31, lenv_mem, none1, hnt, g0, g1, g2, g7]
      refine call_mono (hE1 [45] hda d1 n1) fun v d2 n2 hR hl2 hle2 hok2 => ?_
      obtain ⟨l, a1, a2, a3⟩ := hR
      have hl := ends_none a1 hno
      subst hl
      rcases a2 with ⟨_, rfl⟩ | ⟨h0, _⟩
      · simp +decide -implicitDefEqProofs only [stp,code_seq,evWanted,evOp,val,absV,evBin,evConv,evBuiltin,cmpInt,vals,partsOf,isAggD,cellsOf,isAggV,Nat.reduceEqDiff,Nat.reduceLT,Nat.reduceBEq,Nat.reduceBNe,reduceCtorEq,if_true,if_false,reduceIte,forall_const,IntKind.bits,IntKind.signed,eq_self_iff_true,finalOf,resultOf,cellsGood,AC.isCell,senv_mem,lift, lty3,lty4,lty5,lty9,lty22,lty33,lty25,lty34,lty23,lty36,lty40,lty98,lty96,lty93,lty95,lty54,lty38,lty31, lenv_mem, none1, hnt]
        refine hQ _ _ _ _ (.c (.bool true)) (by simp) ?_ rfl
        simp +decide -implicitDefEqProofs only [stp,code_seq,evWanted,evOp,val,absV,evBin,evConv,evBuiltin,cmpInt,vals,partsOf,isAggD,cellsOf,isAggV,Nat.reduceEqDiff,Nat.reduceLT,Nat.reduceBEq,Nat.reduceBNe,reduceCtorEq,if_true,if_false,reduceIte,forall_const,IntKind.bits,IntKind.signed,eq_self_iff_true,finalOf,resultOf,cellsGood,AC.isCell,senv_mem,lift, Tryz.f9, hnt]
      · exact absurd rfl h0

/-- The same, at a grammar in the heap. -/
theorem l_fine {mem : Nat → Nat → Option Value} {B0 : Nat} {x : AC} {g : List Ru} {s : List UInt8} {utf : Bool} {NM : List (List UInt8)} {d : Seg} {n : Nat} (hx : isRules [d] x g = true) (hgl : g.length < 1000) (hwf : ∀ r ∈ g, wfEx NM r.ex = true) (hnm : ∀ r ∈ g, r.name ∈ NM) (hda : [45] ∈ NM) (hno : ruleOf [45] g = none) (hs0 : s.length < 1000) (hNM : NM.length ≤ 1000) :
    CallsA Tryz.prog (lenv mem) B0 9 [.c x, .c (.str s), .c (.bool utf)] d n fun v d' n' => v = .c (.bool true) := by
  refine (callsA_import' (R := fun v δ n0 => v = .c (.bool true)) fun al ρ w hrep hargs => ?_).mono ?_
  · refine ⟨lenv (memOf w), [.c (lift (conc ρ x)), .c (.str s), .c (.bool utf)], fun e r h => h, fun b o v hv => hv, ?_, ?_, ?_⟩
    · intro y hy
      simp only [List.mem_cons, List.not_mem_nil, or_false] at hy
      rcases hy with rfl | rfl | rfl
      · exact ok_lift _ _
      · trivial
      · trivial
    · simp only [List.map_cons, List.map_nil, lift_conc]
      rfl
    · exact fine_ok (isRules_at hrep hx) hgl hwf hnm hda hno hs0 hNM
  · rintro v d' n' ⟨v0, δ, n0, rfl, rfl, rfl, rfl, hl, _, _⟩ _ hle _
    rfl

end Go.Proofs.YtdpielghjaehbaaGreat.Ev
