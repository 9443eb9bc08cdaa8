/- sense: sets of places. -/
import Derived.Test.YtdpielghjaehbaaGreatSc
import Derived.Laws.Externs
import Derived.Laws.Cover3
import Derived.WalkKit
set_option linter.unusedSectionVars false
set_option linter.unusedSimpArgs false
set_option linter.unusedVariables false
namespace Go.Proofs.YtdpielghjaehbaaGreat.Ev

variable {mem : Nat → Nat → Option Value} {B0 : Nat}

def keysOf (ks : List (Int × Nat)) : List Int := ks.map (·.1)

structure Wf (ks : List (Int × Nat)) (clock : Nat) : Prop where
  born : ∀ p ∈ ks, p.2 < clock
  stamps : (ks.map (·.2)).Nodup
  keys : (keysOf ks).Nodup

/-- A set of places. -/
def Holds (d : Seg) (j : Nat) (S : Int → Prop) : Prop := ∃ ks clock, get [d] j = some (.pm ks clock) ∧ Wf ks clock ∧ ∀ x, x ∈ keysOf ks ↔ S x

/-- A set of places of the call's own. -/
def NewPlaces (d' : Seg) (n : Nat) (v : AV) (S : Int → Prop) : Prop := ∃ j, n ≤ j ∧ v = .c (.mref j) ∧ Holds d' j S

def KeepsBut (i : Nat) (d : Seg) (n : Nat) (d' : Seg) : Prop := ∀ x, x < n → x ≠ i → get [d'] x = get [d] x

theorem KeepsBut.cons {i n x : Nat} {d d' : Seg} {o : Option AObj} (h : KeepsBut i d n d') (hx : x = i ∨ n ≤ x) : KeepsBut i d n ((x, o) :: d') := fun y hy hyi => by
  rw [get_cons, if_neg (by omega)]; exact h y hy hyi

theorem Keeps.but {i n : Nat} {d d' : Seg} (h : Keeps d n d') : KeepsBut i d n d' := fun x hx _ => h x hx
theorem KeepsBut.trans {i n n1 : Nat} {d d1 d2 : Seg} (h : KeepsBut i d n d1) (k : KeepsBut i d1 n1 d2) (hn : n ≤ n1) : KeepsBut i d n d2 := fun x hx hxi => (k x (by omega) hxi).trans (h x hx hxi)

theorem Wf.nil (clock : Nat) : Wf [] clock := ⟨by simp, by simp, by simp [keysOf]⟩

theorem Wf.snoc {ks : List (Int × Nat)} {clock : Nat} (h : Wf ks clock) {q : Int} (hq : q ∉ keysOf ks) : Wf (ks ++ [(q, clock)]) (clock + 1) := by
  refine ⟨?_, ?_, ?_⟩
  · intro p hp
    rcases List.mem_append.1 hp with hp | hp
    · have := h.born p hp; omega
    · simp only [List.mem_singleton] at hp; subst hp; simp
  · simp only [List.map_append, List.map_cons, List.map_nil]
    refine List.nodup_append.2 ⟨h.stamps, by simp, ?_⟩
    intro a ha b hb
    simp only [List.mem_singleton] at hb
    obtain ⟨p, hp, rfl⟩ := List.mem_map.1 ha
    have := h.born p hp
    omega
  · simp only [keysOf, List.map_append, List.map_cons, List.map_nil]
    refine List.nodup_append.2 ⟨h.keys, by simp, ?_⟩
    intro a ha b hb
    simp only [List.mem_singleton] at hb
    subst hb
    rintro rfl
    exact hq ha

theorem pfind_iff (q : Int) : ∀ (ks : List (Int × Nat)), pfind q ks = true ↔ q ∈ keysOf ks
  | [] => by simp [pfind, keysOf]
  | (j, c) :: ks => by
    have := pfind_iff q ks
    simp only [pfind, Bool.or_eq_true, beq_iff_eq, this, keysOf, List.map_cons, List.mem_cons]
    constructor
    · rintro (rfl | h)
      · exact .inl rfl
      · exact .inr h
    · rintro (rfl | h)
      · exact .inl rfl
      · exact .inr h

theorem find_stamp : ∀ {ks : List (Int × Nat)}, (ks.map (·.2)).Nodup → ∀ {p}, p ∈ ks → ks.find? (fun x => x.2 == p.2) = some p
  | x :: ks, hn, p, hp => by
    simp only [List.map_cons, List.nodup_cons] at hn
    rcases List.mem_cons.1 hp with rfl | hp
    · simp
    · have : (x.2 == p.2) = false := by
        simp only [beq_eq_false_iff_ne]
        exact fun e => hn.1 (e ▸ List.mem_map_of_mem hp)
      rw [List.find?_cons, this]
      exact find_stamp hn.2 hp

/-- How many are still to come. -/
def left (kt : List (Int × Nat)) (was : List Nat) : Nat := (kt.filter fun p => decide (p.2 ∉ was)).length

theorem left_lt {kt : List (Int × Nat)} {was : List Nat} {p : Int × Nat} (hp : p ∈ kt) (hn : p.2 ∉ was) : left kt (was ++ [p.2]) < left kt was := by
  unfold left
  have e : (kt.filter fun x => decide (x.2 ∉ was ++ [p.2])) = (kt.filter fun x => decide (x.2 ∉ was)).filter fun x => decide (x.2 ≠ p.2) := by
    rw [List.filter_filter]
    refine List.filter_congr fun x _ => ?_
    simp only [List.mem_append, List.mem_singleton, not_or, ne_eq]
    by_cases h1 : x.2 ∈ was <;> by_cases h2 : x.2 = p.2 <;> simp [h1, h2]
  rw [e]
  exact List.length_filter_lt_length_iff_exists.2 ⟨p, List.mem_filter.2 ⟨hp, by simpa using hn⟩, by simp⟩

theorem only_ok (at_ : Int) (d : Seg) (n : Nat) : CallsA Tryz.prog (senv mem) B0 56 [.c (.int .i64 at_)] d n fun v d' n' => Keeps d n d' ∧ NewPlaces d' n v (· = at_) := by
  refine callsA_code senv_ok none1_ok Tryz.func56 rfl (by decide) rfl rfl (by simp) fun hl ha Q hQ => ?_
  simp +decide -implicitDefEqProofs only [stp,code_seq,evWanted,evOp,val,absV,evBin,evConv,evBuiltin,cmpInt,vals,partsOf,isAggD,cellsOf,isAggV,Nat.reduceEqDiff,Nat.reduceLT,Nat.reduceBEq,Nat.reduceBNe,reduceCtorEq,if_true,if_false,reduceIte,forall_const,IntKind.bits,IntKind.signed,eq_self_iff_true,finalOf,resultOf,cellsGood,AC.isCell,senv_mem,lift, Tryz.f56, ty3,ty4,ty5,ty9,ty21,ty22,ty33,ty34,ty23,ty36,ty40,ty73,ty71,ty75,ty80,ty77,ty90, none1, spliceAll, allFields, pfind, List.nil_append, Array.toList, List.all_nil]
  refine hQ _ _ _ _ (.c (.mref n)) (by simp) ?_ ⟨((Keeps.refl _ _).cons (Nat.le_refl _)).cons (Nat.le_refl _), n, Nat.le_refl _, rfl, [(at_, 0)], 1, ?_, ?_, ?_⟩
  · simp +decide -implicitDefEqProofs only [stp,code_seq,evWanted,evOp,val,absV,evBin,evConv,evBuiltin,cmpInt,vals,partsOf,isAggD,cellsOf,isAggV,Nat.reduceEqDiff,Nat.reduceLT,Nat.reduceBEq,Nat.reduceBNe,reduceCtorEq,if_true,if_false,reduceIte,forall_const,IntKind.bits,IntKind.signed,eq_self_iff_true,finalOf,resultOf,cellsGood,AC.isCell,senv_mem,lift, Tryz.f56]
  · rw [get_cons, if_pos rfl]
  · exact (Wf.nil 0).snoc (by simp [keysOf])
  · intro x; simp [keysOf]

theorem copy_ok {d : Seg} {n i j ci cj : Nat} {ks kt : List (Int × Nat)} (hi : get [d] i = some (.pm ks ci)) (hwi : Wf ks ci) (hj : get [d] j = some (.pm kt cj)) (hwj : Wf kt cj) :
    CallsA Tryz.prog (senv mem) B0 63 [.c (.mref i), .c (.mref j)] d n fun v d' n' => KeepsBut i d n d' ∧
      ∃ ex c', get [d'] i = some (.pm (ks ++ ex) c') ∧ Wf (ks ++ ex) c' ∧ ∀ x, x ∈ keysOf (ks ++ ex) ↔ (x ∈ keysOf ks ∨ x ∈ keysOf kt) := by
  refine callsA_code senv_ok none1_ok Tryz.func63 rfl (by decide) rfl rfl (by simp) fun hl ha Q hQ => ?_
  simp +decide -implicitDefEqProofs only [stp,code_seq,evWanted,evOp,val,absV,evBin,evConv,evBuiltin,cmpInt,vals,partsOf,isAggD,cellsOf,isAggV,Nat.reduceEqDiff,Nat.reduceLT,Nat.reduceBEq,Nat.reduceBNe,reduceCtorEq,if_true,if_false,reduceIte,forall_const,IntKind.bits,IntKind.signed,eq_self_iff_true,finalOf,resultOf,cellsGood,AC.isCell,senv_mem,lift, ty3,ty4,ty5,ty9,ty21,ty22,ty33,ty34,ty23,ty36,ty40,ty73,ty71,ty75,ty80,ty77,ty90, none1, hj]
  refine code_loop senv_ok none1_ok (fun q s d' n' => s.nt = 16 ∧ KeepsBut i d n d' ∧ n < n' ∧ get [d'] j = some (.pm kt cj) ∧ s.get 0 = .c (.mref i) ∧ s.get 7 = .c (.ptr n 0) ∧
    ∃ was ex c', q = left kt was ∧ get [d'] n = some (.mit j cj was cj) ∧ get [d'] i = some (.pm (ks ++ ex) c') ∧ Wf (ks ++ ex) c' ∧ (∀ x ∈ keysOf ex, x ∈ keysOf kt) ∧ (∀ p ∈ kt, p.2 ∈ was → p.1 ∈ keysOf (ks ++ ex))) (left kt []) ?_ ?_
  · have h1 := (hl i _ hi).1
    have h2 := (hl j _ hj).1
    refine ⟨rfl, fun x hx _ => by rw [get_cons, if_neg (by omega)], by omega, by rw [get_cons, if_neg (by omega)]; exact hj, ?_, ?_, [], [], ci, rfl, by rw [get_cons, if_pos rfl], by rw [get_cons, if_neg (by omega), List.append_nil]; exact hi, by rw [List.append_nil]; exact hwi, by simp [keysOf], by simp⟩
    · simp +decide -implicitDefEqProofs only [stp,code_seq,evWanted,evOp,val,absV,evBin,evConv,evBuiltin,cmpInt,vals,partsOf,isAggD,cellsOf,isAggV,Nat.reduceEqDiff,Nat.reduceLT,Nat.reduceBEq,Nat.reduceBNe,reduceCtorEq,if_true,if_false,reduceIte,forall_const,IntKind.bits,IntKind.signed,eq_self_iff_true,finalOf,resultOf,cellsGood,AC.isCell,senv_mem,lift]
    · simp +decide -implicitDefEqProofs only [stp,code_seq,evWanted,evOp,val,absV,evBin,evConv,evBuiltin,cmpInt,vals,partsOf,isAggD,cellsOf,isAggV,Nat.reduceEqDiff,Nat.reduceLT,Nat.reduceBEq,Nat.reduceBNe,reduceCtorEq,if_true,if_false,reduceIte,forall_const,IntKind.bits,IntKind.signed,eq_self_iff_true,finalOf,resultOf,cellsGood,AC.isCell,senv_mem,lift]
  · rintro q s d' n' ⟨hnt, hk, hn', gj, g0, g7, was, ex, c', rfl, gn, gi, hw, hex, hall⟩ hl1 hs1 Q' hQ1 hQ2
    simp +decide -implicitDefEqProofs only [stp,code_seq,evWanted,evOp,val,absV,evBin,evConv,evBuiltin,cmpInt,vals,partsOf,isAggD,cellsOf,isAggV,Nat.reduceEqDiff,Nat.reduceLT,Nat.reduceBEq,Nat.reduceBNe,reduceCtorEq,if_true,if_false,reduceIte,forall_const,IntKind.bits,IntKind.signed,eq_self_iff_true,finalOf,resultOf,cellsGood,AC.isCell,senv_mem,lift, ty3,ty4,ty5,ty9,ty21,ty22,ty33,ty34,ty23,ty36,ty40,ty73,ty71,ty75,ty80,ty77,ty90, hnt, g0, g7]
    have hin := (hl1 i _ gi).1
    have hjn := (hl1 j _ gj).1
    have hni : ¬ n = i := fun e => by subst e; rw [gi] at gn; cases gn
    have hnj : ¬ n = j := fun e => by subst e; rw [gj] at gn; cases gn
    refine ⟨j, cj, was, cj, kt, cj, gn, gj, hwj.born, Nat.le_refl _, fun hdone => ?_, fun p hp hnot => ?_⟩
    · simp +decide -implicitDefEqProofs only [stp,code_seq,evWanted,evOp,val,absV,evBin,evConv,evBuiltin,cmpInt,vals,partsOf,isAggD,cellsOf,isAggV,Nat.reduceEqDiff,Nat.reduceLT,Nat.reduceBEq,Nat.reduceBNe,reduceCtorEq,if_true,if_false,reduceIte,forall_const,IntKind.bits,IntKind.signed,eq_self_iff_true,finalOf,resultOf,cellsGood,AC.isCell,senv_mem,lift, ty3,ty4,ty5,ty9,ty21,ty22,ty33,ty34,ty23,ty36,ty40,ty73,ty71,ty75,ty80,ty77,ty90, hnt, g0, g7]
      refine hQ2 _ _ _ _ (by simp) ?_
      simp +decide -implicitDefEqProofs only [stp,code_seq,evWanted,evOp,val,absV,evBin,evConv,evBuiltin,cmpInt,vals,partsOf,isAggD,cellsOf,isAggV,Nat.reduceEqDiff,Nat.reduceLT,Nat.reduceBEq,Nat.reduceBNe,reduceCtorEq,if_true,if_false,reduceIte,forall_const,IntKind.bits,IntKind.signed,eq_self_iff_true,finalOf,resultOf,cellsGood,AC.isCell,senv_mem,lift]
      refine hQ _ _ _ _ (.tup []) (by simp) ?_ ⟨hk, ex, c', gi, hw, fun x => ⟨fun hx => ?_, fun hx => ?_⟩⟩
      · simp +decide -implicitDefEqProofs only [stp,code_seq,evWanted,evOp,val,absV,evBin,evConv,evBuiltin,cmpInt,vals,partsOf,isAggD,cellsOf,isAggV,Nat.reduceEqDiff,Nat.reduceLT,Nat.reduceBEq,Nat.reduceBNe,reduceCtorEq,if_true,if_false,reduceIte,forall_const,IntKind.bits,IntKind.signed,eq_self_iff_true,finalOf,resultOf,cellsGood,AC.isCell,senv_mem,lift, resultsOf, Tryz.f63]
      · simp only [keysOf, List.map_append, List.mem_append] at hx ⊢
        exact hx.imp id (hex x)
      · rcases hx with hx | hx
        · simp only [keysOf, List.map_append, List.mem_append]; exact .inl hx
        · obtain ⟨p, hp, rfl⟩ := List.mem_map.1 hx
          exact hall p hp (hdone p hp)
    · have hlast : (was ++ [p.2]).getLast? = some p.2 := by simp
      have hfind := find_stamp hwj.stamps hp
      have hn1 : ¬ n' = i := by omega
      have hn2 : ¬ n' = j := by omega
      have hn3 : ¬ n' = n := by omega
      cases hpf : pfind p.1 (ks ++ ex) with
      | true =>
        simp +decide -implicitDefEqProofs only [stp,code_seq,evWanted,evOp,val,absV,evBin,evConv,evBuiltin,cmpInt,vals,partsOf,isAggD,cellsOf,isAggV,Nat.reduceEqDiff,Nat.reduceLT,Nat.reduceBEq,Nat.reduceBNe,reduceCtorEq,if_true,if_false,reduceIte,forall_const,IntKind.bits,IntKind.signed,eq_self_iff_true,finalOf,resultOf,cellsGood,AC.isCell,senv_mem,lift, ty3,ty4,ty5,ty9,ty21,ty22,ty33,ty34,ty23,ty36,ty40,ty73,ty71,ty75,ty80,ty77,ty90, hnt, g0, g7, hlast, hfind, hnj, gj, splice, List.take, List.drop, List.nil_append, List.append_nil, hn1, hn2, hni, gi, hpf]
        refine hQ1 _ _ _ _ (left_lt hp hnot) ⟨by simp only [nt_put, hnt], (((hk.cons (.inr (Nat.le_refl _))).cons (.inr (by omega))).cons (.inr (by omega))).cons (.inl rfl), by omega, ?_, ?_, ?_, was ++ [p.2], ex, c', rfl, ?_, ?_, hw, hex, ?_⟩
        · rw [get_cons]
          by_cases hij : i = j
          · rw [if_pos hij, ← gi, hij]; exact gj
          · rw [if_neg hij, get_cons, if_neg hn2, get_cons, if_neg hn2, get_cons, if_neg hnj]; exact gj
        · simp +decide -implicitDefEqProofs only [stp,code_seq,evWanted,evOp,val,absV,evBin,evConv,evBuiltin,cmpInt,vals,partsOf,isAggD,cellsOf,isAggV,Nat.reduceEqDiff,Nat.reduceLT,Nat.reduceBEq,Nat.reduceBNe,reduceCtorEq,if_true,if_false,reduceIte,forall_const,IntKind.bits,IntKind.signed,eq_self_iff_true,finalOf,resultOf,cellsGood,AC.isCell,senv_mem,lift, hnt, g0]
        · simp +decide -implicitDefEqProofs only [stp,code_seq,evWanted,evOp,val,absV,evBin,evConv,evBuiltin,cmpInt,vals,partsOf,isAggD,cellsOf,isAggV,Nat.reduceEqDiff,Nat.reduceLT,Nat.reduceBEq,Nat.reduceBNe,reduceCtorEq,if_true,if_false,reduceIte,forall_const,IntKind.bits,IntKind.signed,eq_self_iff_true,finalOf,resultOf,cellsGood,AC.isCell,senv_mem,lift, hnt, g7]
        · rw [get_cons, if_neg (fun e => hni e.symm), get_cons, if_neg hn3, get_cons, if_neg hn3, get_cons, if_pos rfl]
        · rw [get_cons, if_pos rfl]
        · intro x hx hxw
          rcases List.mem_append.1 hxw with h | h
          · exact hall x hx h
          · simp only [List.mem_singleton] at h
            have : x = p := by
              have h1 := find_stamp hwj.stamps hx
              rw [h, hfind] at h1
              simpa using h1.symm
            subst this
            exact (pfind_iff _ _).1 hpf
      | false =>
        simp +decide -implicitDefEqProofs only [stp,code_seq,evWanted,evOp,val,absV,evBin,evConv,evBuiltin,cmpInt,vals,partsOf,isAggD,cellsOf,isAggV,Nat.reduceEqDiff,Nat.reduceLT,Nat.reduceBEq,Nat.reduceBNe,reduceCtorEq,if_true,if_false,reduceIte,forall_const,IntKind.bits,IntKind.signed,eq_self_iff_true,finalOf,resultOf,cellsGood,AC.isCell,senv_mem,lift, ty3,ty4,ty5,ty9,ty21,ty22,ty33,ty34,ty23,ty36,ty40,ty73,ty71,ty75,ty80,ty77,ty90, hnt, g0, g7, hlast, hfind, hnj, gj, splice, List.take, List.drop, List.nil_append, List.append_nil, hn1, hn2, hni, gi, hpf]
        have hnk : p.1 ∉ keysOf (ks ++ ex) := fun h => by rw [(pfind_iff _ _).2 h] at hpf; cases hpf
        have hij : ¬ i = j := fun e => by
          rw [e, gj] at gi
          simp only [Option.some.injEq, AObj.pm.injEq] at gi
          exact hnk (gi.1 ▸ List.mem_map_of_mem hp)
        refine hQ1 _ _ _ _ (left_lt hp hnot) ⟨by simp only [nt_put, hnt], (((hk.cons (.inr (Nat.le_refl _))).cons (.inr (by omega))).cons (.inr (by omega))).cons (.inl rfl), by omega, ?_, ?_, ?_, was ++ [p.2], ex ++ [(p.1, c')], c' + 1, rfl, ?_, ?_, ?_, ?_, ?_⟩
        · rw [get_cons, if_neg hij, get_cons, if_neg hn2, get_cons, if_neg hn2, get_cons, if_neg hnj]; exact gj
        · simp +decide -implicitDefEqProofs only [stp,code_seq,evWanted,evOp,val,absV,evBin,evConv,evBuiltin,cmpInt,vals,partsOf,isAggD,cellsOf,isAggV,Nat.reduceEqDiff,Nat.reduceLT,Nat.reduceBEq,Nat.reduceBNe,reduceCtorEq,if_true,if_false,reduceIte,forall_const,IntKind.bits,IntKind.signed,eq_self_iff_true,finalOf,resultOf,cellsGood,AC.isCell,senv_mem,lift, hnt, g0]
        · simp +decide -implicitDefEqProofs only [stp,code_seq,evWanted,evOp,val,absV,evBin,evConv,evBuiltin,cmpInt,vals,partsOf,isAggD,cellsOf,isAggV,Nat.reduceEqDiff,Nat.reduceLT,Nat.reduceBEq,Nat.reduceBNe,reduceCtorEq,if_true,if_false,reduceIte,forall_const,IntKind.bits,IntKind.signed,eq_self_iff_true,finalOf,resultOf,cellsGood,AC.isCell,senv_mem,lift, hnt, g7]
        · rw [get_cons, if_neg (fun e => hni e.symm), get_cons, if_neg hn3, get_cons, if_neg hn3, get_cons, if_pos rfl]
        · rw [get_cons, if_pos rfl, List.append_assoc]
        · rw [← List.append_assoc]; exact hw.snoc hnk
        · intro x hx
          simp only [keysOf, List.map_append, List.mem_append, List.map_cons, List.map_nil, List.mem_singleton] at hx
          rcases hx with hx | rfl
          · exact hex x hx
          · exact List.mem_map_of_mem hp
        · intro x hx hxw
          rw [← List.append_assoc]
          simp only [keysOf, List.map_append, List.mem_append, List.map_cons, List.map_nil, List.mem_singleton]
          rcases List.mem_append.1 hxw with h | h
          · have := hall x hx h
            simp only [keysOf, List.map_append, List.mem_append] at this
            exact .inl this
          · simp only [List.mem_singleton] at h
            have : x = p := by
              have h1 := find_stamp hwj.stamps hx
              rw [h, hfind] at h1
              simpa using h1.symm
            subst this
            exact .inr rfl

theorem add_ok {d : Seg} {n i j : Nat} {S T : Int → Prop} (hi : Holds d i S) (hj : Holds d j T) :
    CallsA Tryz.prog (senv mem) B0 36 [.c (.mref i), .c (.mref j)] d n fun v d' n' => KeepsBut i d n d' ∧ Holds d' i (fun x => S x ∨ T x) ∧ ∃ b, v = .c (.bool b) ∧ (b = true ↔ ∃ x, T x ∧ ¬ S x) := by
  obtain ⟨ks, ci, gi, hwi, hS⟩ := hi
  obtain ⟨kt, cj, gj, hwj, hT⟩ := hj
  refine callsA_code senv_ok none1_ok Tryz.func36 rfl (by decide) rfl rfl (by simp) fun hl ha Q hQ => ?_
  simp +decide -implicitDefEqProofs only [stp,code_seq,evWanted,evOp,val,absV,evBin,evConv,evBuiltin,cmpInt,vals,partsOf,isAggD,cellsOf,isAggV,Nat.reduceEqDiff,Nat.reduceLT,Nat.reduceBEq,Nat.reduceBNe,reduceCtorEq,if_true,if_false,reduceIte,forall_const,IntKind.bits,IntKind.signed,eq_self_iff_true,finalOf,resultOf,cellsGood,AC.isCell,senv_mem,lift, Tryz.f36, ty3,ty4,ty5,ty9,ty21,ty22,ty33,ty34,ty23,ty36,ty40,ty73,ty71,ty75,ty80,ty77,ty90, none1, gi]
  refine call_mono (copy_ok gi hwi gj hwj) fun v1 d1 n1 hR hl1 hn1 hok => ?_
  obtain ⟨hk, ex, c', g1, hw, hmem⟩ := hR
  simp +decide -implicitDefEqProofs only [stp,code_seq,evWanted,evOp,val,absV,evBin,evConv,evBuiltin,cmpInt,vals,partsOf,isAggD,cellsOf,isAggV,Nat.reduceEqDiff,Nat.reduceLT,Nat.reduceBEq,Nat.reduceBNe,reduceCtorEq,if_true,if_false,reduceIte,forall_const,IntKind.bits,IntKind.signed,eq_self_iff_true,finalOf,resultOf,cellsGood,AC.isCell,senv_mem,lift, ty3,ty4,ty5,ty9,ty21,ty22,ty33,ty34,ty23,ty36,ty40,ty73,ty71,ty75,ty80,ty77,ty90, g1]
  have hiff : decide (((ks ++ ex).length : Int) > (ks.length : Int)) = true ↔ ∃ x, T x ∧ ¬ S x := by
    rw [decide_eq_true_eq]
    constructor
    · intro h
      have : ex ≠ [] := fun e => by subst e; simp at h
      obtain ⟨p, hp⟩ := List.exists_mem_of_ne_nil ex this
      refine ⟨p.1, ?_, ?_⟩
      · have hnd := hw.keys
        have h1 : p.1 ∈ keysOf (ks ++ ex) := List.mem_map_of_mem (List.mem_append_right _ hp)
        rcases (hmem p.1).1 h1 with h2 | h2
        · exfalso
          simp only [keysOf, List.map_append] at hnd
          exact (List.nodup_append.1 hnd).2.2 _ h2 _ (List.mem_map_of_mem hp) rfl
        · exact (hT _).1 h2
      · intro hs
        have hnd := hw.keys
        simp only [keysOf, List.map_append] at hnd
        exact (List.nodup_append.1 hnd).2.2 _ ((hS _).2 hs) _ (List.mem_map_of_mem hp) rfl
    · rintro ⟨x, hx, hns⟩
      have : ex ≠ [] := fun e => by
        subst e
        rw [List.append_nil] at hmem
        exact hns ((hS x).1 ((hmem x).2 (.inr ((hT x).2 hx))))
      have := List.length_pos_iff.2 this
      rw [List.length_append]; omega
  refine hQ _ _ _ _ (.c (.bool (decide (((ks ++ ex).length : Int) > (ks.length : Int))))) (by simp) ?_ ⟨hk, ⟨ks ++ ex, c', g1, hw, fun x => ?_⟩, _, rfl, hiff⟩
  · simp +decide -implicitDefEqProofs only [stp,code_seq,evWanted,evOp,val,absV,evBin,evConv,evBuiltin,cmpInt,vals,partsOf,isAggD,cellsOf,isAggV,Nat.reduceEqDiff,Nat.reduceLT,Nat.reduceBEq,Nat.reduceBNe,reduceCtorEq,if_true,if_false,reduceIte,forall_const,IntKind.bits,IntKind.signed,eq_self_iff_true,finalOf,resultOf,cellsGood,AC.isCell,senv_mem,lift, Tryz.f36]
  · rw [hmem, hS, hT]

end Go.Proofs.YtdpielghjaehbaaGreat.Ev

/- sense: a copy of a set of places. -/
set_option linter.unusedSectionVars false
set_option linter.unusedSimpArgs false
set_option linter.unusedVariables false
namespace Go.Proofs.YtdpielghjaehbaaGreat.Ev
open Go.RowKit

variable {mem : Nat → Nat → Option Value} {B0 : Nat}

theorem run_eql_map_nil_here {P : Program} (w : World) (t k e : TypeId) (p : Option Nat) (h : P.underlying t = some (.map k e)) : (binOp .eql t (.map p) (.map none)).run P w = .ok (.bool p.isNone) w := by
  simp only [binOp]
  simp [show Op.equal t (.map p) (.map none) = Op.equalIn (9999 + 1) t (.map p) (.map none) from rfl, run_equalIn_map_nil w 9999 t k e p h]

theorem run_typeAssert_map_here {P : Program} (w : World) (t xT k e : TypeId) (v : Value) (h : P.underlying t = some (.map k e)) : (Instr.typeAssert (.iface t v) xT t false).run P w = .ok v w := by
  simp [Instr.typeAssert, run_underlying h, go_sem, Result.andThen]

theorem run_maps_clone_here {P : Program} (w : World) {r : Nat} {es : Array MapEntry} {clock : Nat} (t : TypeId) (hb : w.heap[r]? = some (.map es clock)) :
    (Extern.MapsClone.clone #[.iface t (.map (some r))]).run P w = .ok (.iface t (.map (some w.heap.size))) (w.alloc (.map es clock)) := by
  have e : Extern.MapsClone.clone #[.iface t (.map (some r))] = (getObj r >>= fun o => match o with
      | .map entries clock => (newObj (.map entries clock) >>= fun n => pure (.iface t (.map (some n))))
      | _ => stuck "maps.clone: a map expected") := rfl
  rw [e]
  simp [MapKept.run_getObj_map hb, Result.andThen, go_sem]

set_option maxHeartbeats 2000000 in
set_option maxRecDepth 100000 in
theorem clone_calls (b : Nat) (es : Array MapEntry) (clock : Nat) (w : World) (hb : w.heap[b]? = some (.map es clock)) :
    Calls Tryz.prog 81 #[.map (some b)] w fun e w' => e = .returned (.map (some w.heap.size)) ∧ w' = w.alloc (.map es clock) := by
  have hq := fun w => run_eql_map_nil_here (P := Tryz.prog) w 75 _ _ (some b) Tryz.underlying75
  go_enter Tryz.func81, Tryz.ntmps81
  go_wp2
  rw [run_callFunc_extern Tryz.func93 (by kernel_rfl) (by kernel_rfl) (by kernel_rfl) (e := Extern.MapsClone.clone) (by kernel_rfl), run_maps_clone_here w 75 hb]
  simp only [Result.andThen]
  rw [Oper.upon_value]
  go_wp2
  rw [run_typeAssert_map_here _ 75 20 _ _ _ Tryz.underlying75]
  simp only [Result.andThen]
  rw [Oper.upon_value]
  go_wp2
  go_ret
  exact ⟨rfl, rfl⟩

theorem clone_ok {d : Seg} {n j c : Nat} {ks : List (Int × Nat)} (hj : get [d] j = some (.pm ks c)) :
    CallsA Tryz.prog (senv mem) B0 81 [.c (.mref j)] d n fun v d' n' => v = .c (.mref n) ∧ d' = (n, some (.pm ks c)) :: d ∧ n' = n + 1 := by
  intro al ρ w hr hargs
  refine ⟨⟨_, Tryz.func81, rfl, by decide⟩, ?_⟩
  have hb := hr.pm hj
  refine (clone_calls (ρ j).1 _ c w hb).mono fun e w' ⟨he, hw⟩ => ?_
  subst hw
  have hst := step_new (w1 := w) hr (.pm ks c) trivial (.map (ks.map pmEntry).toArray c) 0 rfl ⟨rfl, rfl, rfl, rfl⟩
  exact ⟨_, _, _, _, _, _, ⟨rfl, rfl, rfl⟩, rfl, hst, .inr rfl, by rw [he]; simp [concV, conc]⟩

end Go.Proofs.YtdpielghjaehbaaGreat.Ev
