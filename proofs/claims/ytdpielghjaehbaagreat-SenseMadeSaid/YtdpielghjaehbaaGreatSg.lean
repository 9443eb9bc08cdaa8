/- sense: one number of a span. -/
import Derived.Test.YtdpielghjaehbaaGreatSe
import Derived.Laws.RangeAny
set_option linter.unusedSectionVars false
set_option linter.unusedSimpArgs false
set_option linter.unusedVariables false
namespace Go.Proofs.YtdpielghjaehbaaGreat.Ev

variable {mem : Nat → Nat → Option Value} {B0 : Nat}

def firstRune (l : List UInt8) : Int := ((Utf8.decode ⟨l.toArray⟩ 0).1 : Nat)

def endIf (o : Option (List UInt8)) (rest : List UInt8) (c lo hi : Int) (at_ : Nat) : Option Nat := match o with
  | some b => if c ≥ lo ∧ c ≤ hi ∧ preB rest b = true then some (at_ + b.length) else none
  | none => none

/-- Where one number of a span ends. -/
def spanEnd (s : List UInt8) (utf : Bool) (lo hi : Int) (at_ : Nat) : Option Nat :=
  if utf then (if at_ < s.length then endIf (textOf true [firstRune (s.drop at_)]) (s.drop at_) (firstRune (s.drop at_)) lo hi at_ else none)
  else match s[at_]? with
    | some b => if (b.toNat : Int) ≥ lo ∧ (b.toNat : Int) ≤ hi then some (at_ + 1) else none
    | none => none

def oneOf (o : Option Nat) (x : Int) : Prop := ∃ p : Nat, o = some p ∧ x = p

theorem holds_nil {d : Seg} {j : Nat} {S : Int → Prop} (h : get [d] j = some (.pm [] 0)) (hS : ∀ x, ¬ S x) : Holds d j S := ⟨[], 0, h, Wf.nil 0, fun x => by simp [keysOf, hS x]⟩
theorem holds_one {d : Seg} {j : Nat} {S : Int → Prop} {p : Int} (h : get [d] j = some (.pm [(p, 0)] 1)) (hS : ∀ x, S x ↔ x = p) : Holds d j S :=
  ⟨[(p, 0)], 1, h, (Wf.nil 0).snoc (by simp [keysOf]), fun x => by simp [keysOf, hS x]⟩

set_option maxHeartbeats 1000000 in
theorem text_ok' {d : Seg} {n ix k : Nat} {s0 : List UInt8} {utf gr : Bool} {v : AV} {l : List Int} (hx : SenseAt d ix s0 utf k gr) (hix : ix < n) (hv : IntArg mem d v l) (hl0 : l.length ≤ 20000) {o : Option (List UInt8)} (ho : textOf utf l = o) :
    CallsA Tryz.prog (senv mem) B0 60 [.c (.ptr ix 0), v] d n fun r d' n' => Keeps d n d' ∧ ((∃ b, o = some b ∧ r = .tup [.str b, .bool true]) ∨ (o = none ∧ r = .tup [.str [], .bool false])) := by
  refine (text_ok (mem := mem) (B0 := B0) hx hix hv hl0).mono fun r d' n' hR _ _ _ => ⟨hR.1, ?_⟩
  have h2 := hR.2
  subst ho
  unfold textRes at h2
  cases h : textOf utf l with
  | none => rw [h] at h2; exact .inr ⟨rfl, h2⟩
  | some b => rw [h] at h2; exact .inl ⟨b, rfl, h2⟩

theorem decode_at0 (l : List UInt8) : ∃ c wd : Nat, Utf8.decode ⟨l.toArray⟩ 0 = (c, wd) ∧ firstRune l = (c : Int) ∧ c ≤ 2147483647 := ⟨_, _, rfl, rfl, decode_le _ _⟩

set_option maxRecDepth 20000 in
theorem span_ok {d : Seg} {n ix k : Nat} {s0 : List UInt8} {utf gr : Bool} {lo hi : Int} {at_ : Nat} (hx : SenseAt d ix s0 utf k gr) (hix : ix < n) (hat : at_ ≤ s0.length) (hs0 : s0.length < 4611686018427387904) :
    CallsA Tryz.prog (senv mem) B0 62 [.c (.ptr ix 0), .c (.int .i64 lo), .c (.int .i64 hi), .c (.int .i64 at_)] d n fun v d' n' => Keeps d n d' ∧ NewPlaces d' n v (oneOf (spanEnd s0 utf lo hi at_)) := by
  refine callsA_code senv_ok none1_ok Tryz.func62 rfl (by decide) rfl rfl (by simp) fun hl ha Q hQ => ?_
  have hx1 : get [d] ix = some (.cells 73 [.str s0, .bool utf, .mref k, .bool gr]) := hx
  have hnx : ¬ n = ix := by omega
  have hk1 : ∀ o, Keeps d n ((n, o) :: d) := fun o => (Keeps.refl d n).cons (Nat.le_refl n)
  cases utf with
  | false =>
    have fin0 : spanEnd s0 false lo hi at_ = none → ∀ x s', (x = AX.norm ∨ x = AX.ret) → finalOf (senv mem) s' [(n, some (.pm [] 0)) :: d] Tryz.f62.results.toList = some (.c (.mref n)) → Q x s' ((n, some (.pm [] 0)) :: d) (n + 1) := fun he x s' hx hf =>
      hQ x s' _ _ (.c (.mref n)) hx hf ⟨hk1 _, n, Nat.le_refl _, rfl, holds_nil (by rw [get_cons, if_pos rfl]) (fun x ⟨p, h, _⟩ => by rw [he] at h; cases h)⟩
    by_cases h1 : (at_ : Int) < s0.length
    · have h1' : at_ < s0.length := by omega
      have hb : s0[at_]? = some s0[at_] := List.getElem?_eq_getElem h1'
      have ha0 : (0 : Int) ≤ at_ := by omega
      have hw8 : IntKind.i64.wrap (s0[at_].toNat : Int) = (s0[at_].toNat : Int) := by have := (byte_cast s0[at_]); exact wrap_id (by omega) (by omega)
      by_cases h2 : (s0[at_].toNat : Int) ≥ lo
      · by_cases h3 : (s0[at_].toNat : Int) ≤ hi
        · simp +decide -implicitDefEqProofs only [stp,code_seq,evWanted,evOp,val,absV,evBin,evConv,evBuiltin,cmpInt,vals,partsOf,isAggD,cellsOf,isAggV,Nat.reduceEqDiff,Nat.reduceLT,Nat.reduceBEq,Nat.reduceBNe,reduceCtorEq,if_true,if_false,reduceIte,forall_const,IntKind.bits,IntKind.signed,eq_self_iff_true,finalOf,resultOf,cellsGood,AC.isCell,senv_mem,lift, Tryz.f62, ty3,ty4,ty5,ty9,ty21,ty22,ty33,ty34,ty23,ty36,ty40,ty73,ty71,ty75,ty80,ty77,ty90, none1, hx1, hnx, h1, hb, ha0, Int.toNat_natCast, hw8, h2, h3, spliceAll, allFields, pfind, List.nil_append, List.all_nil]
          refine hQ _ _ _ _ (.c (.mref n)) (by simp) ?_ ⟨(hk1 _).cons (Nat.le_refl _), n, Nat.le_refl _, rfl, ?_⟩
          · simp +decide -implicitDefEqProofs only [stp,code_seq,evWanted,evOp,val,absV,evBin,evConv,evBuiltin,cmpInt,vals,partsOf,isAggD,cellsOf,isAggV,Nat.reduceEqDiff,Nat.reduceLT,Nat.reduceBEq,Nat.reduceBNe,reduceCtorEq,if_true,if_false,reduceIte,forall_const,IntKind.bits,IntKind.signed,eq_self_iff_true,finalOf,resultOf,cellsGood,AC.isCell,senv_mem,lift, Tryz.f62]
          · refine holds_one (p := ((at_ + 1 : Nat) : Int)) (by rw [get_cons, if_pos rfl, wrap_succ (by omega)]) (fun x => ?_)
            have : spanEnd s0 false lo hi at_ = some (at_ + 1) := by simp [spanEnd, hb, h2, h3]
            simp [oneOf, this]
        · simp +decide -implicitDefEqProofs only [stp,code_seq,evWanted,evOp,val,absV,evBin,evConv,evBuiltin,cmpInt,vals,partsOf,isAggD,cellsOf,isAggV,Nat.reduceEqDiff,Nat.reduceLT,Nat.reduceBEq,Nat.reduceBNe,reduceCtorEq,if_true,if_false,reduceIte,forall_const,IntKind.bits,IntKind.signed,eq_self_iff_true,finalOf,resultOf,cellsGood,AC.isCell,senv_mem,lift, Tryz.f62, ty3,ty4,ty5,ty9,ty21,ty22,ty33,ty34,ty23,ty36,ty40,ty73,ty71,ty75,ty80,ty77,ty90, none1, hx1, hnx, h1, hb, ha0, Int.toNat_natCast, hw8, h2, h3]
          refine fin0 (by simp [spanEnd, hb, h2, h3]) _ _ (by simp) ?_
          simp +decide -implicitDefEqProofs only [stp,code_seq,evWanted,evOp,val,absV,evBin,evConv,evBuiltin,cmpInt,vals,partsOf,isAggD,cellsOf,isAggV,Nat.reduceEqDiff,Nat.reduceLT,Nat.reduceBEq,Nat.reduceBNe,reduceCtorEq,if_true,if_false,reduceIte,forall_const,IntKind.bits,IntKind.signed,eq_self_iff_true,finalOf,resultOf,cellsGood,AC.isCell,senv_mem,lift, Tryz.f62]
      · simp +decide -implicitDefEqProofs only [stp,code_seq,evWanted,evOp,val,absV,evBin,evConv,evBuiltin,cmpInt,vals,partsOf,isAggD,cellsOf,isAggV,Nat.reduceEqDiff,Nat.reduceLT,Nat.reduceBEq,Nat.reduceBNe,reduceCtorEq,if_true,if_false,reduceIte,forall_const,IntKind.bits,IntKind.signed,eq_self_iff_true,finalOf,resultOf,cellsGood,AC.isCell,senv_mem,lift, Tryz.f62, ty3,ty4,ty5,ty9,ty21,ty22,ty33,ty34,ty23,ty36,ty40,ty73,ty71,ty75,ty80,ty77,ty90, none1, hx1, hnx, h1, hb, ha0, Int.toNat_natCast, hw8, h2]
        refine fin0 (by simp [spanEnd, hb, h2]) _ _ (by simp) ?_
        simp +decide -implicitDefEqProofs only [stp,code_seq,evWanted,evOp,val,absV,evBin,evConv,evBuiltin,cmpInt,vals,partsOf,isAggD,cellsOf,isAggV,Nat.reduceEqDiff,Nat.reduceLT,Nat.reduceBEq,Nat.reduceBNe,reduceCtorEq,if_true,if_false,reduceIte,forall_const,IntKind.bits,IntKind.signed,eq_self_iff_true,finalOf,resultOf,cellsGood,AC.isCell,senv_mem,lift, Tryz.f62]
    · simp +decide -implicitDefEqProofs only [stp,code_seq,evWanted,evOp,val,absV,evBin,evConv,evBuiltin,cmpInt,vals,partsOf,isAggD,cellsOf,isAggV,Nat.reduceEqDiff,Nat.reduceLT,Nat.reduceBEq,Nat.reduceBNe,reduceCtorEq,if_true,if_false,reduceIte,forall_const,IntKind.bits,IntKind.signed,eq_self_iff_true,finalOf,resultOf,cellsGood,AC.isCell,senv_mem,lift, Tryz.f62, ty3,ty4,ty5,ty9,ty21,ty22,ty33,ty34,ty23,ty36,ty40,ty73,ty71,ty75,ty80,ty77,ty90, none1, hx1, hnx, h1]
      refine fin0 (by have : s0[at_]? = none := List.getElem?_eq_none (by omega); simp [spanEnd, this]) _ _ (by simp) ?_
      simp +decide -implicitDefEqProofs only [stp,code_seq,evWanted,evOp,val,absV,evBin,evConv,evBuiltin,cmpInt,vals,partsOf,isAggD,cellsOf,isAggV,Nat.reduceEqDiff,Nat.reduceLT,Nat.reduceBEq,Nat.reduceBNe,reduceCtorEq,if_true,if_false,reduceIte,forall_const,IntKind.bits,IntKind.signed,eq_self_iff_true,finalOf,resultOf,cellsGood,AC.isCell,senv_mem,lift, Tryz.f62]
  | true =>
    have ha0 : (0 : Int) ≤ at_ := by omega
    have ha1 : (at_ : Int) ≤ s0.length := by omega
    simp +decide -implicitDefEqProofs only [stp,code_seq,evWanted,evOp,val,absV,evBin,evConv,evBuiltin,cmpInt,vals,partsOf,isAggD,cellsOf,isAggV,Nat.reduceEqDiff,Nat.reduceLT,Nat.reduceBEq,Nat.reduceBNe,reduceCtorEq,if_true,if_false,reduceIte,forall_const,IntKind.bits,IntKind.signed,eq_self_iff_true,finalOf,resultOf,cellsGood,AC.isCell,senv_mem,lift, Tryz.f62, ty3,ty4,ty5,ty9,ty21,ty22,ty33,ty34,ty23,ty36,ty40,ty73,ty71,ty75,ty80,ty77,ty90, none1, hx1, hnx, ha0, ha1, Int.toNat_natCast]
    have hn1 : ¬ n + 1 = n := by omega
    have hn2 : ¬ n = n + 1 := by omega
    have hn3 : ¬ n + 1 = ix := by omega
    have hfin : ∀ x s' d' n', (x = AX.norm ∨ x = AX.ret) → finalOf (senv mem) s' [d'] Tryz.f62.results.toList = some (.c (.mref n)) → Keeps d n d' → Holds d' n (oneOf (spanEnd s0 true lo hi at_)) → Q x s' d' n' := fun x s' d' n' hx hf hk hh =>
      hQ x s' _ _ (.c (.mref n)) hx hf ⟨hk, n, Nat.le_refl _, rfl, hh⟩
    refine code_loop senv_ok none1_ok (fun q s d' n' => q = 0 ∧ d' = (n + 1, some (.sit (s0.drop at_) 0)) :: (n, some (.pm [] 0)) :: d ∧ n' = n + 1 + 1 ∧ s.nt = 102 ∧ s.get 0 = .c (.ptr ix 0) ∧ s.get 1 = .c (.int .i64 lo) ∧ s.get 2 = .c (.int .i64 hi) ∧ s.get 3 = .c (.int .i64 at_) ∧ s.get 9 = .c (.mref n) ∧ s.get 60 = .c (.ptr (n + 1) 0)) 0 ?_ ?_
    · refine ⟨rfl, rfl, rfl, ?_⟩
      simp +decide -implicitDefEqProofs only [stp,code_seq,evWanted,evOp,val,absV,evBin,evConv,evBuiltin,cmpInt,vals,partsOf,isAggD,cellsOf,isAggV,Nat.reduceEqDiff,Nat.reduceLT,Nat.reduceBEq,Nat.reduceBNe,reduceCtorEq,if_true,if_false,reduceIte,forall_const,IntKind.bits,IntKind.signed,eq_self_iff_true,finalOf,resultOf,cellsGood,AC.isCell,senv_mem,lift]
    · rintro q s _ _ ⟨rfl, rfl, rfl, hnt, g0, g1, g2, g3, g9, g60⟩ hl1 hs1 Q' hQ1 hQ2
      generalize hr : s0.drop at_ = rest at *
      by_cases hlt : 0 < rest.length
      · have hat' : at_ < s0.length := by rw [← hr, List.length_drop] at hlt; omega
        obtain ⟨c, wd, hc, hfr, hdl⟩ := decode_at0 rest
        have hwc : IntKind.i64.wrap (c : Int) = (c : Int) := wrap_id (by omega) (by omega)
        simp +decide -implicitDefEqProofs only [stp,code_seq,evWanted,evOp,val,absV,evBin,evConv,evBuiltin,cmpInt,vals,partsOf,isAggD,cellsOf,isAggV,Nat.reduceEqDiff,Nat.reduceLT,Nat.reduceBEq,Nat.reduceBNe,reduceCtorEq,if_true,if_false,reduceIte,forall_const,IntKind.bits,IntKind.signed,eq_self_iff_true,finalOf,resultOf,cellsGood,AC.isCell,senv_mem,lift, ty3,ty4,ty5,ty9,ty21,ty22,ty33,ty34,ty23,ty36,ty40,ty73,ty71,ty75,ty80,ty77,ty90, none1, hnt, g0, g1, g2, g3, g9, g60, hlt, hc, hwc, hx1, hnx, hn1, hn2, hn3, spliceAll, splice, List.range, List.range.loop, List.map_cons, List.map_nil, List.take_zero, List.take, List.drop, List.nil_append, List.append_nil, Nat.reduceMul, Nat.reduceAdd, Nat.reduceMod]
        obtain ⟨o, ho⟩ : ∃ o, textOf true [(c : Int)] = o := ⟨_, rfl⟩
        refine call_mono (text_ok' (mem := mem) (B0 := B0) (o := o) (ix := ix) (s0 := s0) (utf := true) (k := k) (gr := gr) (l := [(c : Int)]) ?_ (by omega) (.inr (.inl ⟨_, rfl, by rw [get_cons, if_pos rfl]; rfl⟩)) (by simp) ho) fun v d2 n2 hR hl2 hle2 hok => ?_
        · simp only [SenseAt, get_cons, if_neg hn3, if_neg hnx, if_neg (show ¬ n + 1 + 1 = ix by omega)]
          exact hx
        have hk := hR.1
        have hv := hR.2
        clear hR
        have hkd : Keeps d n d2 := (((((hk1 _).cons (by omega)).cons (by omega)).cons (by omega)) : Keeps d n _).trans hk (by omega)
        have hpm : get [d2] n = some (.pm [] 0) := by
          rw [hk n (by omega)]
          simp only [get_cons, if_neg (show ¬ n + 1 + 1 = n by omega), if_neg hn1, if_true]
        have hx2 : get [d2] ix = some (.cells 73 [.str s0, .bool true, .mref k, .bool gr]) := by
          rw [hk ix (by omega)]
          simp only [get_cons, if_neg hn3, if_neg hnx, if_neg (show ¬ n + 1 + 1 = ix by omega)]
          exact hx
        have hse : spanEnd s0 true lo hi at_ = endIf o rest c lo hi at_ := by simp only [spanEnd, if_true, if_pos hat', hr, hfr, ho]
        clear ho
        rcases hv with ⟨b, rfl, rfl⟩ | ⟨rfl, rfl⟩
        rotate_left
        ·
          simp +decide -implicitDefEqProofs only [stp,code_seq,evWanted,evOp,val,absV,evBin,evConv,evBuiltin,cmpInt,vals,partsOf,isAggD,cellsOf,isAggV,Nat.reduceEqDiff,Nat.reduceLT,Nat.reduceBEq,Nat.reduceBNe,reduceCtorEq,if_true,if_false,reduceIte,forall_const,IntKind.bits,IntKind.signed,eq_self_iff_true,finalOf,resultOf,cellsGood,AC.isCell,senv_mem,lift, ty3,ty4,ty5,ty9,ty21,ty22,ty33,ty34,ty23,ty36,ty40,ty73,ty71,ty75,ty80,ty77,ty90, hnt, g9]
          refine hQ2 _ _ _ _ (by simp) ?_
          simp +decide -implicitDefEqProofs only [stp,code_seq,evWanted,evOp,val,absV,evBin,evConv,evBuiltin,cmpInt,vals,partsOf,isAggD,cellsOf,isAggV,Nat.reduceEqDiff,Nat.reduceLT,Nat.reduceBEq,Nat.reduceBNe,reduceCtorEq,if_true,if_false,reduceIte,forall_const,IntKind.bits,IntKind.signed,eq_self_iff_true,finalOf,resultOf,cellsGood,AC.isCell,senv_mem,lift, Tryz.f62, ty3,ty4,ty5,ty9,ty21,ty22,ty33,ty34,ty23,ty36,ty40,ty73,ty71,ty75,ty80,ty77,ty90, hnt, g9]
          refine hfin _ _ _ _ (by simp) ?_ hkd (holds_nil hpm (fun x ⟨p, h, _⟩ => by rw [hse] at h; simp [endIf] at h))
          simp +decide -implicitDefEqProofs only [stp,code_seq,evWanted,evOp,val,absV,evBin,evConv,evBuiltin,cmpInt,vals,partsOf,isAggD,cellsOf,isAggV,Nat.reduceEqDiff,Nat.reduceLT,Nat.reduceBEq,Nat.reduceBNe,reduceCtorEq,if_true,if_false,reduceIte,forall_const,IntKind.bits,IntKind.signed,eq_self_iff_true,finalOf,resultOf,cellsGood,AC.isCell,senv_mem,lift, Tryz.f62, hnt, g9]
        · simp only [endIf] at hse
          by_cases h2 : (c : Int) ≥ lo
          · by_cases h3 : (c : Int) ≤ hi
            · simp +decide -implicitDefEqProofs only [stp,code_seq,evWanted,evOp,val,absV,evBin,evConv,evBuiltin,cmpInt,vals,partsOf,isAggD,cellsOf,isAggV,Nat.reduceEqDiff,Nat.reduceLT,Nat.reduceBEq,Nat.reduceBNe,reduceCtorEq,if_true,if_false,reduceIte,forall_const,IntKind.bits,IntKind.signed,eq_self_iff_true,finalOf,resultOf,cellsGood,AC.isCell,senv_mem,lift, ty3,ty4,ty5,ty9,ty21,ty22,ty33,ty34,ty23,ty36,ty40,ty73,ty71,ty75,ty80,ty77,ty90, none1, hnt, g0, g1, g2, g3, g9, hwc, h2, h3, hx2, ha0, ha1, Int.toNat_natCast, hr]
              refine call_mono (pre_ok rest b d2 n2) fun v d3 n3 hR hl3 hle3 hok3 => ?_
              obtain ⟨rfl, rfl, rfl⟩ := hR
              cases hp : preB rest b with
              | true =>
                rw [if_pos ⟨h2, h3, hp⟩] at hse
                have hbl : b.length ≤ rest.length := by simp only [preB, Bool.and_eq_true, decide_eq_true_eq] at hp; exact hp.1
                have hrl : rest.length = s0.length - at_ := by rw [← hr, List.length_drop]
                have hwl : IntKind.i64.wrap ((at_ : Int) + (b.length : Int)) = ((at_ + b.length : Nat) : Int) := by rw [wrap_id (by omega) (by omega)]; rfl
                simp +decide -implicitDefEqProofs only [stp,code_seq,evWanted,evOp,val,absV,evBin,evConv,evBuiltin,cmpInt,vals,partsOf,isAggD,cellsOf,isAggV,Nat.reduceEqDiff,Nat.reduceLT,Nat.reduceBEq,Nat.reduceBNe,reduceCtorEq,if_true,if_false,reduceIte,forall_const,IntKind.bits,IntKind.signed,eq_self_iff_true,finalOf,resultOf,cellsGood,AC.isCell,senv_mem,lift, ty3,ty4,ty5,ty9,ty21,ty22,ty33,ty34,ty23,ty36,ty40,ty73,ty71,ty75,ty80,ty77,ty90, hnt, g3, g9, hwl, hpm, spliceAll, allFields, pfind, List.nil_append]
                refine hQ2 _ _ _ _ (by simp) ?_
                simp +decide -implicitDefEqProofs only [stp,code_seq,evWanted,evOp,val,absV,evBin,evConv,evBuiltin,cmpInt,vals,partsOf,isAggD,cellsOf,isAggV,Nat.reduceEqDiff,Nat.reduceLT,Nat.reduceBEq,Nat.reduceBNe,reduceCtorEq,if_true,if_false,reduceIte,forall_const,IntKind.bits,IntKind.signed,eq_self_iff_true,finalOf,resultOf,cellsGood,AC.isCell,senv_mem,lift, Tryz.f62, ty3,ty4,ty5,ty9,ty21,ty22,ty33,ty34,ty23,ty36,ty40,ty73,ty71,ty75,ty80,ty77,ty90, hnt, g9]
                refine hfin _ _ _ _ (by simp) ?_ (hkd.cons (Nat.le_refl _)) (holds_one (p := ((at_ + b.length : Nat) : Int)) (by rw [get_cons, if_pos rfl]) (fun x => by simp [oneOf, hse]))
                simp +decide -implicitDefEqProofs only [stp,code_seq,evWanted,evOp,val,absV,evBin,evConv,evBuiltin,cmpInt,vals,partsOf,isAggD,cellsOf,isAggV,Nat.reduceEqDiff,Nat.reduceLT,Nat.reduceBEq,Nat.reduceBNe,reduceCtorEq,if_true,if_false,reduceIte,forall_const,IntKind.bits,IntKind.signed,eq_self_iff_true,finalOf,resultOf,cellsGood,AC.isCell,senv_mem,lift, Tryz.f62, hnt, g9]
              | false =>
                rw [if_neg (fun h => by rw [hp] at h; exact absurd h.2.2 (by simp))] at hse
                simp +decide -implicitDefEqProofs only [stp,code_seq,evWanted,evOp,val,absV,evBin,evConv,evBuiltin,cmpInt,vals,partsOf,isAggD,cellsOf,isAggV,Nat.reduceEqDiff,Nat.reduceLT,Nat.reduceBEq,Nat.reduceBNe,reduceCtorEq,if_true,if_false,reduceIte,forall_const,IntKind.bits,IntKind.signed,eq_self_iff_true,finalOf,resultOf,cellsGood,AC.isCell,senv_mem,lift, ty3,ty4,ty5,ty9,ty21,ty22,ty33,ty34,ty23,ty36,ty40,ty73,ty71,ty75,ty80,ty77,ty90, hnt, g9]
                refine hQ2 _ _ _ _ (by simp) ?_
                simp +decide -implicitDefEqProofs only [stp,code_seq,evWanted,evOp,val,absV,evBin,evConv,evBuiltin,cmpInt,vals,partsOf,isAggD,cellsOf,isAggV,Nat.reduceEqDiff,Nat.reduceLT,Nat.reduceBEq,Nat.reduceBNe,reduceCtorEq,if_true,if_false,reduceIte,forall_const,IntKind.bits,IntKind.signed,eq_self_iff_true,finalOf,resultOf,cellsGood,AC.isCell,senv_mem,lift, Tryz.f62, ty3,ty4,ty5,ty9,ty21,ty22,ty33,ty34,ty23,ty36,ty40,ty73,ty71,ty75,ty80,ty77,ty90, hnt, g9]
                refine hfin _ _ _ _ (by simp) ?_ hkd (holds_nil hpm (fun x ⟨p, h, _⟩ => by rw [hse] at h; cases h))
                simp +decide -implicitDefEqProofs only [stp,code_seq,evWanted,evOp,val,absV,evBin,evConv,evBuiltin,cmpInt,vals,partsOf,isAggD,cellsOf,isAggV,Nat.reduceEqDiff,Nat.reduceLT,Nat.reduceBEq,Nat.reduceBNe,reduceCtorEq,if_true,if_false,reduceIte,forall_const,IntKind.bits,IntKind.signed,eq_self_iff_true,finalOf,resultOf,cellsGood,AC.isCell,senv_mem,lift, Tryz.f62, hnt, g9]
            · rw [if_neg (fun h => h3 h.2.1)] at hse
              simp +decide -implicitDefEqProofs only [stp,code_seq,evWanted,evOp,val,absV,evBin,evConv,evBuiltin,cmpInt,vals,partsOf,isAggD,cellsOf,isAggV,Nat.reduceEqDiff,Nat.reduceLT,Nat.reduceBEq,Nat.reduceBNe,reduceCtorEq,if_true,if_false,reduceIte,forall_const,IntKind.bits,IntKind.signed,eq_self_iff_true,finalOf,resultOf,cellsGood,AC.isCell,senv_mem,lift, ty3,ty4,ty5,ty9,ty21,ty22,ty33,ty34,ty23,ty36,ty40,ty73,ty71,ty75,ty80,ty77,ty90, none1, hnt, g0, g1, g2, g3, g9, hwc, h2, h3]
              refine hQ2 _ _ _ _ (by simp) ?_
              simp +decide -implicitDefEqProofs only [stp,code_seq,evWanted,evOp,val,absV,evBin,evConv,evBuiltin,cmpInt,vals,partsOf,isAggD,cellsOf,isAggV,Nat.reduceEqDiff,Nat.reduceLT,Nat.reduceBEq,Nat.reduceBNe,reduceCtorEq,if_true,if_false,reduceIte,forall_const,IntKind.bits,IntKind.signed,eq_self_iff_true,finalOf,resultOf,cellsGood,AC.isCell,senv_mem,lift, Tryz.f62, ty3,ty4,ty5,ty9,ty21,ty22,ty33,ty34,ty23,ty36,ty40,ty73,ty71,ty75,ty80,ty77,ty90, hnt, g9]
              refine hfin _ _ _ _ (by simp) ?_ hkd (holds_nil hpm (fun x ⟨p, h, _⟩ => by rw [hse] at h; cases h))
              simp +decide -implicitDefEqProofs only [stp,code_seq,evWanted,evOp,val,absV,evBin,evConv,evBuiltin,cmpInt,vals,partsOf,isAggD,cellsOf,isAggV,Nat.reduceEqDiff,Nat.reduceLT,Nat.reduceBEq,Nat.reduceBNe,reduceCtorEq,if_true,if_false,reduceIte,forall_const,IntKind.bits,IntKind.signed,eq_self_iff_true,finalOf,resultOf,cellsGood,AC.isCell,senv_mem,lift, Tryz.f62, hnt, g9]
          · rw [if_neg (fun h => h2 h.1)] at hse
            simp +decide -implicitDefEqProofs only [stp,code_seq,evWanted,evOp,val,absV,evBin,evConv,evBuiltin,cmpInt,vals,partsOf,isAggD,cellsOf,isAggV,Nat.reduceEqDiff,Nat.reduceLT,Nat.reduceBEq,Nat.reduceBNe,reduceCtorEq,if_true,if_false,reduceIte,forall_const,IntKind.bits,IntKind.signed,eq_self_iff_true,finalOf,resultOf,cellsGood,AC.isCell,senv_mem,lift, ty3,ty4,ty5,ty9,ty21,ty22,ty33,ty34,ty23,ty36,ty40,ty73,ty71,ty75,ty80,ty77,ty90, none1, hnt, g0, g1, g2, g3, g9, hwc, h2]
            refine hQ2 _ _ _ _ (by simp) ?_
            simp +decide -implicitDefEqProofs only [stp,code_seq,evWanted,evOp,val,absV,evBin,evConv,evBuiltin,cmpInt,vals,partsOf,isAggD,cellsOf,isAggV,Nat.reduceEqDiff,Nat.reduceLT,Nat.reduceBEq,Nat.reduceBNe,reduceCtorEq,if_true,if_false,reduceIte,forall_const,IntKind.bits,IntKind.signed,eq_self_iff_true,finalOf,resultOf,cellsGood,AC.isCell,senv_mem,lift, Tryz.f62, ty3,ty4,ty5,ty9,ty21,ty22,ty33,ty34,ty23,ty36,ty40,ty73,ty71,ty75,ty80,ty77,ty90, hnt, g9]
            refine hfin _ _ _ _ (by simp) ?_ hkd (holds_nil hpm (fun x ⟨p, h, _⟩ => by rw [hse] at h; cases h))
            simp +decide -implicitDefEqProofs only [stp,code_seq,evWanted,evOp,val,absV,evBin,evConv,evBuiltin,cmpInt,vals,partsOf,isAggD,cellsOf,isAggV,Nat.reduceEqDiff,Nat.reduceLT,Nat.reduceBEq,Nat.reduceBNe,reduceCtorEq,if_true,if_false,reduceIte,forall_const,IntKind.bits,IntKind.signed,eq_self_iff_true,finalOf,resultOf,cellsGood,AC.isCell,senv_mem,lift, Tryz.f62, hnt, g9]
      · simp +decide -implicitDefEqProofs only [stp,code_seq,evWanted,evOp,val,absV,evBin,evConv,evBuiltin,cmpInt,vals,partsOf,isAggD,cellsOf,isAggV,Nat.reduceEqDiff,Nat.reduceLT,Nat.reduceBEq,Nat.reduceBNe,reduceCtorEq,if_true,if_false,reduceIte,forall_const,IntKind.bits,IntKind.signed,eq_self_iff_true,finalOf,resultOf,cellsGood,AC.isCell,senv_mem,lift, ty3,ty4,ty5,ty9,ty21,ty22,ty33,ty34,ty23,ty36,ty40,ty73,ty71,ty75,ty80,ty77,ty90, hnt, g9, g60, hlt]
        refine hQ2 _ _ _ _ (by simp) ?_
        simp +decide -implicitDefEqProofs only [stp,code_seq,evWanted,evOp,val,absV,evBin,evConv,evBuiltin,cmpInt,vals,partsOf,isAggD,cellsOf,isAggV,Nat.reduceEqDiff,Nat.reduceLT,Nat.reduceBEq,Nat.reduceBNe,reduceCtorEq,if_true,if_false,reduceIte,forall_const,IntKind.bits,IntKind.signed,eq_self_iff_true,finalOf,resultOf,cellsGood,AC.isCell,senv_mem,lift, Tryz.f62, ty3,ty4,ty5,ty9,ty21,ty22,ty33,ty34,ty23,ty36,ty40,ty73,ty71,ty75,ty80,ty77,ty90, hnt, g9]
        refine hfin _ _ _ _ (by simp) ?_ ((hk1 _).cons (by omega)) (holds_nil (by rw [get_cons, if_neg hn1, get_cons, if_pos rfl]) (fun x ⟨p, h, _⟩ => ?_))
        · simp +decide -implicitDefEqProofs only [stp,code_seq,evWanted,evOp,val,absV,evBin,evConv,evBuiltin,cmpInt,vals,partsOf,isAggD,cellsOf,isAggV,Nat.reduceEqDiff,Nat.reduceLT,Nat.reduceBEq,Nat.reduceBNe,reduceCtorEq,if_true,if_false,reduceIte,forall_const,IntKind.bits,IntKind.signed,eq_self_iff_true,finalOf,resultOf,cellsGood,AC.isCell,senv_mem,lift, Tryz.f62, hnt, g9]
        · have : ¬ at_ < s0.length := by rw [← hr, List.length_drop] at hlt; omega
          simp [spanEnd, this] at h

end Go.Proofs.YtdpielghjaehbaaGreat.Ev
