/- The library's iterators as calls over abstract heaps. -/
import Derived.Test.YtdpielghjaehbaaGreatKe
import Derived.Test.YtdpielghjaehbaaGreatEvS
set_option linter.unusedSectionVars false
set_option linter.unusedSimpArgs false
set_option linter.unusedVariables false
namespace Go.Proofs.YtdpielghjaehbaaGreat.Ev
open Go.RowKit Go.Maps Go.Sort Go.Shelf Go.Proofs

variable {mem : Nat → Nat → Option Value} {B0 : Nat}

/-- A call that hands back a new row. -/
theorem calls_row {P : Program} {E : Env} {B0 f : Nat} {args : List AV} {d : Seg} {n : Nat} {elem : Nat} {r : TyRow} (hr : assoc E.tys elem = some r) {R : List AC → Nat → Prop}
    (h : ∀ al ρ w, Rep E B0 ⟨[d], al, n, ρ, w⟩ → (∀ x ∈ args, x.ok al) → (∃ fn, P.funcs[f]? = some fn ∧ fn.body.isNone = false ∧ (fn.name == "runtime.NumGoroutine") = false) ∧
      Calls P f (args.map (concV ρ)).toArray w fun e w' => ∃ v l len, e = .returned v ∧ R l len ∧ l.all AC.plain = true ∧ w'.ownsRow w.heap.size elem r.size v len (concs ρ l) ∧ (v = .slice none 0 0 ↔ l = []) ∧ Below w.heap.size w w') :
    CallsA P E B0 f args d n fun v d' n' => ∃ l len, R l len ∧ ((l = [] ∧ v = .c .sl0 ∧ d' = d ∧ n' = n) ∨ (l ≠ [] ∧ v = .c (.sl n len) ∧ d' = (n, some (.cells elem l)) :: d ∧ n' = n + 1)) := by
  intro al ρ w hrep hargs
  obtain ⟨h1, h2⟩ := h al ρ w hrep hargs
  refine ⟨h1, h2.mono ?_⟩
  rintro e w' ⟨v, l, len, rfl, hR, hpl, hrow, hnil, hb⟩
  by_cases hl : l = []
  · have hv := hnil.2 hl
    subst hv
    exact ⟨_, _, _, [], ρ, al, ⟨l, len, hR, .inl ⟨hl, rfl, rfl, rfl⟩⟩, rfl, step_below hrep hb, trivial, rfl⟩
  · obtain ⟨hlen, hrow⟩ := hrow
    rcases hrow with ⟨hv, _⟩ | ⟨g, cap, cur, rfl, hg, hgb, h3, h4, h5, h6⟩
    · exact absurd (hnil.1 hv) hl
    · have hok : (AObj.cells elem l).ok al := fun c hc => ok_plain (List.all_eq_true.1 hpl c hc)
      rw [← hlen] at h6
      have hcur : cur = (concs ρ l ++ cur.toList.drop (concs ρ l).length).toArray := by
        apply Array.ext'
        have := List.take_append_drop (concs ρ l).length cur.toList
        rw [h6] at this
        simpa using this.symm
      have hst := step_fresh (al := al) hrep (.cells elem l) hok (.cells cur elem (0, 0)) cap ⟨cur.toList.drop (concs ρ l).length, by rw [← hcur], r, hr, by
        rw [List.length_drop, length_concs]
        have : (concs ρ l).length ≤ cur.toList.length := by rw [← h6]; exact List.length_take_le' _ _
        rw [length_concs] at this
        simp only [Array.length_toList] at this ⊢
        omega⟩ g hg hb hgb
      refine ⟨_, _, _, _, _, _, ⟨l, len, hR, .inr ⟨hl, rfl, rfl, rfl⟩⟩, rfl, hst, .inr rfl, ?_⟩
      simp [concV, conc]

theorem keysK_ok (k : Nat) (d : Seg) (n : Nat) : CallsA Tryz.prog (senv mem) B0 33 [.c (.mref k)] d n fun v d' n' =>
    v = .c (.clo 53 n) ∧ d' = (n, some (.cells 71 [.mref k])) :: d ∧ n' = n + 1 := by
  refine callsA_code senv_ok none1_ok Tryz.func33 rfl (by decide) rfl rfl (by simp) fun hl ha Q hQ => ?_
  simp +decide -implicitDefEqProofs only [stp,code_seq,evWanted,evOp,val,absV,evBin,evConv,evBuiltin,cmpInt,vals,partsOf,isAggD,cellsOf,isAggV,Nat.reduceEqDiff,Nat.reduceLT,Nat.reduceBEq,Nat.reduceBNe,reduceCtorEq,if_true,if_false,reduceIte,forall_const,IntKind.bits,IntKind.signed,eq_self_iff_true,finalOf,resultOf,cellsGood,AC.isCell,senv_mem,lift, Tryz.f33, ty3,ty4,ty5,ty9,ty21,ty22,ty33,ty34,ty23,ty36,ty40,ty73,ty71,ty75,ty80,ty77,ty90, none1]
  refine hQ _ _ _ _ _ (by simp) ?_ ⟨rfl, rfl, rfl⟩
  simp +decide -implicitDefEqProofs only [stp,code_seq,evWanted,evOp,val,absV,evBin,evConv,evBuiltin,cmpInt,vals,partsOf,isAggD,cellsOf,isAggV,Nat.reduceEqDiff,Nat.reduceLT,Nat.reduceBEq,Nat.reduceBNe,reduceCtorEq,if_true,if_false,reduceIte,forall_const,IntKind.bits,IntKind.signed,eq_self_iff_true,finalOf,resultOf,cellsGood,AC.isCell,senv_mem,lift, Tryz.f33]

theorem keysZ_ok (k : Nat) (d : Seg) (n : Nat) : CallsA Tryz.prog (senv mem) B0 38 [.c (.mref k)] d n fun v d' n' =>
    v = .c (.clo 66 n) ∧ d' = (n, some (.cells 75 [.mref k])) :: d ∧ n' = n + 1 := by
  refine callsA_code senv_ok none1_ok Tryz.func38 rfl (by decide) rfl rfl (by simp) fun hl ha Q hQ => ?_
  simp +decide -implicitDefEqProofs only [stp,code_seq,evWanted,evOp,val,absV,evBin,evConv,evBuiltin,cmpInt,vals,partsOf,isAggD,cellsOf,isAggV,Nat.reduceEqDiff,Nat.reduceLT,Nat.reduceBEq,Nat.reduceBNe,reduceCtorEq,if_true,if_false,reduceIte,forall_const,IntKind.bits,IntKind.signed,eq_self_iff_true,finalOf,resultOf,cellsGood,AC.isCell,senv_mem,lift, Tryz.f38, ty3,ty4,ty5,ty9,ty21,ty22,ty33,ty34,ty23,ty36,ty40,ty73,ty71,ty75,ty80,ty77,ty90, none1]
  refine hQ _ _ _ _ _ (by simp) ?_ ⟨rfl, rfl, rfl⟩
  simp +decide -implicitDefEqProofs only [stp,code_seq,evWanted,evOp,val,absV,evBin,evConv,evBuiltin,cmpInt,vals,partsOf,isAggD,cellsOf,isAggV,Nat.reduceEqDiff,Nat.reduceLT,Nat.reduceBEq,Nat.reduceBNe,reduceCtorEq,if_true,if_false,reduceIte,forall_const,IntKind.bits,IntKind.signed,eq_self_iff_true,finalOf,resultOf,cellsGood,AC.isCell,senv_mem,lift, Tryz.f38]

theorem keysK_gives (n Bm b : Nat) (hn : 1 ≤ n) (ρ : Rho) (es : List KE) (clock : Nat) (hborn : ∀ e ∈ es, e.2.2.2 < clock) (hnd : (es.map (·.2.2.2)).Nodup) (w : World) (hBm : Bm < w.heap.size) (hm : w.cell? ⟨Bm, 0, none⟩ = some (.map (some b))) (hb : w.heap[b]? = some (.map (es.map (kmEntry ρ)).toArray clock)) :
    SeqGives Fence.wide n Tryz.prog 53 #[.pointer (some ⟨Bm, 0, none⟩)] encK (fun ss => ss.Perm (es.map keyOf)) es.length w := fun l J W hW hJ hY h0 => by
  have hlen : (es.map fun e => (e.1, e.2.1, (Value.map (some (ρ e.2.2.1).1)), e.2.2.2)).length = es.length := by simp
  have := keysK_in n l Bm b hn (es.map fun e => (e.1, e.2.1, (Value.map (some (ρ e.2.2.1).1)), e.2.2.2)) (es.map (kmEntry ρ)).toArray ⟨fun x => ?_⟩ ?_ clock ?_ ?_ J (by rw [hlen]; exact hY) W hJ ((hW.cell (p := ⟨Bm, 0, none⟩) hBm).trans hm) ((hW.block b (Array.getElem?_eq_some_iff.1 hb).1).trans hb) h0
  · refine this.mono ?_
    rintro e W' ⟨h1, ss, h2, h3⟩
    refine ⟨h1, ss, ?_, h3⟩
    rw [List.map_map] at h2
    exact h2
  · simp only [InA, List.mem_map]
    constructor
    · rintro ⟨e, h1, rfl⟩; exact ⟨_, ⟨e, h1, rfl⟩, rfl⟩
    · rintro ⟨_, ⟨e, h1, rfl⟩, rfl⟩; exact ⟨e, h1, rfl⟩
  · simpa [Function.comp_def, kmEntry] using hnd
  · intro x hx
    obtain ⟨p, hp, rfl⟩ := List.mem_map.1 (show x ∈ es.map (kmEntry ρ) from hx)
    exact hborn p hp
  · simpa [Function.comp_def] using hnd

/-- Keys as cells. -/
def keyCells (l : List (List UInt8 × Int)) : List AC := l.flatMap fun x => [.str x.1, .int .i64 x.2]

theorem concs_keyCells (ρ : Rho) : ∀ l : List (List UInt8 × Int), concs ρ (keyCells l) = l.flatMap cellsK
  | [] => rfl
  | x :: l => by
    have := concs_keyCells ρ l
    simp only [keyCells, List.flatMap_cons, concs, List.map_append] at this ⊢
    rw [this]; rfl

theorem collect_ok {d : Seg} {n i k clock : Nat} {es : List KE} (hi : get [d] i = some (.cells 71 [.mref k])) (hk : get [d] k = some (.km es clock)) (hborn : ∀ e ∈ es, e.2.2.2 < clock) (hnd : (es.map (·.2.2.2)).Nodup) (hbig : es.length ≤ 1000000000000) :
    CallsA Tryz.prog (senv mem) B0 32 [.c (.clo 53 i)] d n fun v d' n' =>
      ∃ l : List (List UInt8 × Int), l.Perm (es.map keyOf) ∧ Keeps d n d' ∧ n ≤ n' ∧ ((l = [] ∧ v = .c .sl0) ∨ (l ≠ [] ∧ v = .c (.sl n l.length) ∧ get [d'] n = some (.cells 80 (keyCells l)))) := by
  have hrow : ∃ r, assoc (senv mem).tys 80 = some r ∧ r.size = 2 := ⟨_, ty80, rfl⟩
  obtain ⟨r, hr, hsz⟩ := hrow
  refine (calls_row (R := fun l len => ∃ ks : List (List UInt8 × Int), ks.Perm (es.map keyOf) ∧ l = keyCells ks ∧ len = ks.length) hr fun al ρ w hrep hargs => ⟨⟨_, Tryz.func32, rfl, by decide⟩, ?_⟩).mono ?_
  · have hc := hrep.cell hi (k := 0) (x := .mref k) rfl
    have hkm := hrep.km hk
    simp only [conc] at hc hkm
    have hlt := hrep.below hi
    refine (callsIn_wide (n := 6)).1 ?_
    refine (kCollect 6 (by omega) _ #[.pointer (some ⟨(ρ i).1, 0, none⟩)] (enters_of Tryz.func53 (by kernel_rfl) rfl) _ es.length (by unfold maxLen; omega) (by omega) w (keysK_gives 4 (ρ i).1 (ρ k).1 (by omega) ρ es clock hborn hnd w hlt hc hkm)).mono ?_
    rintro e w' ⟨v, ss, rfl, hS, hrow, hnil, hb⟩
    refine ⟨v, keyCells ss, ss.length, rfl, ⟨ss, hS, rfl, rfl⟩, ?_, ?_, ?_, hb⟩
    · simp [keyCells, AC.plain]
    · rw [concs_keyCells, hsz]; exact hrow
    · rw [hnil]
      cases ss <;> simp [keyCells]
  · rintro v d' n' ⟨l, len, ⟨ks, h1, rfl, rfl⟩, h2⟩ _ hle _
    rcases h2 with ⟨h3, rfl, rfl, rfl⟩ | ⟨h3, rfl, rfl, rfl⟩
    · refine ⟨ks, h1, Keeps.refl _ _, hle, .inl ⟨?_, rfl⟩⟩
      cases ks with
      | nil => rfl
      | cons x ks => simp [keyCells] at h3
    · refine ⟨ks, h1, (Keeps.refl _ _).cons (Nat.le_refl _), hle, .inr ⟨fun e => h3 (by rw [e]; rfl), rfl, by rw [get_cons, if_pos rfl]⟩⟩

theorem sort_spec (ss : List Int) (hn : ss.Nodup) : (ss.mergeSort fun x y => decide (x ≤ y)).Pairwise (· < ·) ∧ (∀ x, x ∈ (ss.mergeSort fun x y => decide (x ≤ y)) ↔ x ∈ ss) ∧ (ss.mergeSort fun x y => decide (x ≤ y)).length = ss.length := by
  have hp := List.mergeSort_perm ss (fun x y => decide (x ≤ y))
  refine ⟨?_, fun x => hp.mem_iff, hp.length_eq⟩
  have hs := List.pairwise_mergeSort (le := fun x y : Int => decide (x ≤ y)) (by intro a b c; simp only [decide_eq_true_eq]; omega) (by intro a b; simp only [Bool.or_eq_true, decide_eq_true_eq]; omega) ss
  have hnd : (ss.mergeSort fun x y => decide (x ≤ y)).Pairwise (· ≠ ·) := hp.nodup_iff.2 hn
  have := List.Pairwise.and hs hnd
  refine this.imp ?_
  intro a b ⟨h1, h2⟩
  simp only [decide_eq_true_eq] at h1
  omega

theorem sorted_ok {d : Seg} {n i j : Nat} {S : Int → Prop} (hi : get [d] i = some (.cells 75 [.mref j])) (hj : Holds d j S) (hbig : ∀ l : List Int, l.Nodup → (∀ x ∈ l, S x) → l.length ≤ 1000000000000) :
    CallsA Tryz.prog (senv mem) B0 37 [.c (.clo 66 i)] d n fun v d' n' => ∃ l : List Int, l.Pairwise (· < ·) ∧ (∀ x, x ∈ l ↔ S x) ∧ Keeps d n d' ∧ IntRow d' n v l := by
  obtain ⟨ks, clock, hk, hw, hS⟩ := hj
  have hrow : ∃ r, assoc (senv mem).tys 3 = some r ∧ r.size = 1 := ⟨_, ty3, rfl⟩
  obtain ⟨r, hr, hsz⟩ := hrow
  have hbig' : ks.length ≤ 1000000000000 := by
    have := hbig (keysOf ks) hw.keys (fun x hx => (hS x).1 hx)
    simpa [keysOf] using this
  refine (calls_row (R := fun l len => ∃ ss : List Int, ss.Pairwise (· < ·) ∧ (∀ x, x ∈ ss ↔ S x) ∧ l = intsC ss ∧ len = ss.length) hr fun al ρ w hrep hargs => ⟨⟨_, Tryz.func37, rfl, by decide⟩, ?_⟩).mono ?_
  · have hc := hrep.cell hi (k := 0) (x := .mref j) rfl
    have hpm := hrep.pm hk
    simp only [conc] at hc hpm
    have hlt := hrep.below hi
    refine (callsIn_wide (n := 6)).1 ?_
    have cS := AnyZI.sorted_in lay_sortedA Fence.wide 6 trivial trivial trivial trivial rfl (by omega) (sortsA _) (enters_of Tryz.func65 (by kernel_rfl) rfl) 66 #[.pointer (some ⟨(ρ i).1, 0, none⟩)] trivial (enters_of Tryz.func66 (by kernel_rfl) rfl) _ ks.length (by unfold maxLen; omega) (by omega) w (keysZ_gives 3 (ρ i).1 (ρ j).1 (by omega) ks clock hw w hlt hc hpm)
    change CallsIn _ _ Tryz.prog 37 _ _ _ at cS
    refine cS.mono ?_
    rintro e w' ⟨v, ss, rfl, hP, hrow, hnil, hb⟩
    obtain ⟨s1, s2, s3⟩ := sort_spec ss (hP.nodup_iff.2 hw.keys)
    refine ⟨v, _, ss.length, rfl, ⟨_, s1, fun x => by rw [s2, hP.mem_iff, hS], rfl, s3.symm⟩, ?_, ?_, ?_, hb⟩
    · simp [intsC, AC.plain]
    · rw [hsz]
      have : concs ρ (intsC (ss.mergeSort fun x y => decide (x ≤ y))) = (ss.mergeSort fun x y => decide (x ≤ y)).map encZ := by simp [concs, intsC, conc, Function.comp_def]
      rw [this]; exact hrow
    · rw [hnil]
      have : intsC (ss.mergeSort fun x y => decide (x ≤ y)) = [] ↔ (ss.mergeSort fun x y => decide (x ≤ y)).length = 0 := by rw [List.length_eq_zero_iff, intsC, List.map_eq_nil_iff]
      rw [this, s3, List.length_eq_zero_iff]
  · rintro v d' n' ⟨l, len, ⟨ss, h1, h2, rfl, rfl⟩, h3⟩ _ hle _
    rcases h3 with ⟨h4, rfl, rfl, rfl⟩ | ⟨h4, rfl, rfl, rfl⟩
    · exact ⟨ss, h1, h2, Keeps.refl _ _, .inl ⟨by simpa [intsC] using h4, rfl⟩⟩
    · exact ⟨ss, h1, h2, (Keeps.refl _ _).cons (Nat.le_refl _), .inr ⟨fun e => h4 (by rw [e]; rfl), n, Nat.le_refl _, rfl, by rw [get_cons, if_pos rfl]⟩⟩

end Go.Proofs.YtdpielghjaehbaaGreat.Ev
