/- maps.Keys at sets of places: its iterator gives the numbers, each once, in some order. -/
import Derived.Test.YtdpielghjaehbaaGreatKa
import Derived.Test.YtdpielghjaehbaaGreatSe
import Derived.Test.YtdpielghjaehbaaGreatSi
set_option linter.unusedSectionVars false
set_option linter.unusedSimpArgs false
set_option linter.unusedVariables false
namespace Go.Proofs.YtdpielghjaehbaaGreat.Ev
open Go.RowKit Go.Maps Go.Sort Go.Shelf Go.Proofs

theorem nodup_le {α : Type} [DecidableEq α] : ∀ {l m : List α}, l.Nodup → (∀ x ∈ l, x ∈ m) → l.length ≤ m.length
  | [], m, _, _ => Nat.zero_le _
  | x :: l, m, hn, hs => by
    obtain ⟨h1, h2⟩ := List.nodup_cons.1 hn
    have hx : x ∈ m := hs x (List.mem_cons_self ..)
    have := nodup_le (l := l) (m := m.erase x) h2 (fun y hy => (List.mem_erase_of_ne (by rintro rfl; exact h1 hy)).2 (hs y (List.mem_cons_of_mem _ hy)))
    rw [List.length_erase_of_mem hx] at this
    have := List.length_pos_of_mem hx
    simp only [List.length_cons]; omega

theorem nodup_of_map {α β : Type} {f : α → β} {l : List α} (h : (l.map f).Nodup) : l.Nodup := by
  induction l with
  | nil => exact List.nodup_nil
  | cons x l ih =>
    simp only [List.map_cons, List.nodup_cons] at h ⊢
    exact ⟨fun hx => h.1 (List.mem_map_of_mem hx), ih h.2⟩

theorem done_perm {α : Type} {f : α → Nat} {done ks : List α} (hsub : ∀ p ∈ done, p ∈ ks) (hdn : (done.map f).Nodup) (hnd : (ks.map f).Nodup) (hall : ∀ p ∈ ks, f p ∈ done.map f) : done.Perm ks := by
  refine (List.perm_ext_iff_of_nodup (nodup_of_map hdn) (nodup_of_map hnd)).2 fun p => ⟨hsub p, fun hp => ?_⟩
  obtain ⟨q, hq, he⟩ := List.mem_map.1 (hall p hp)
  have : ∀ {l : List α}, (l.map f).Nodup → p ∈ l → q ∈ l → f q = f p → q = p := by
    intro l hl
    induction l with
    | nil => intro h; cases h
    | cons x l ih =>
      simp only [List.map_cons, List.nodup_cons] at hl
      intro h1 h2 h3
      rcases List.mem_cons.1 h1 with rfl | h1 <;> rcases List.mem_cons.1 h2 with rfl | h2
      · rfl
      · exact absurd (show f p ∈ l.map f by rw [← h3]; exact List.mem_map_of_mem h2) hl.1
      · exact absurd (show f q ∈ l.map f by rw [h3]; exact List.mem_map_of_mem ‹p ∈ l›) hl.1
      · exact ih hl.2 h1 h2 h3
  rw [← this hnd hp (hsub q hq) he]; exact hq

theorem grown_alloc (W : World) (o : Obj) : W.grownBy (W.alloc o) none := ⟨rfl, rfl, rfl, by simp, fun k hk _ => Below.heap_alloc W o k hk⟩

set_option maxRecDepth 100000 in
set_option maxHeartbeats 1000000 in
theorem keysZ_in (n l Bm b : Nat) (hn : 1 ≤ n) (ks : List (Int × Nat)) (E : Array MapEntry) (hE : Hid (∀ x, InA E x ↔ ∃ p ∈ ks, x = pmEntry p)) (hEn : (E.toList.map (·.born)).Nodup) (clock : Nat) (hborn : ∀ x ∈ E.toList, x.born < clock) (hnd : (ks.map (·.2)).Nodup) (J : List Int → World → Prop)
    (hY : ∀ pre x W, J pre W → pre.length < ks.length → YieldAt Fence.wide (n - 1) Tryz.prog l #[encZ x] W fun e W' => e = .returned (.bool true) ∧ J (pre ++ [x]) W' ∧ KeepsWalks W W')
    (W : World) (hJ : AbidesFrom W.heap.size J) (hm : W.cell? ⟨Bm, 0, none⟩ = some (.map (some b))) (hb : W.heap[b]? = some (.map E clock)) (h0 : J [] W) :
    CallsIn Fence.wide n Tryz.prog 66 #[.func (.yield l) #[] #[], .pointer (some ⟨Bm, 0, none⟩)] W fun e W' => (∃ v, e = .returned v) ∧ ∃ ss : List Int, ss.Perm (keysOf ks) ∧ J ss W' := by
  have hF : Fence.wide.fn 66 := trivial
  refine callsIn_of_wp Tryz.func66 rfl trivial ?_ rfl
  simp only [Tryz.ntmps66, List.size_toArray, List.length_cons, List.length_nil, Nat.reduceAdd, Nat.reduceSub, Array.replicate_succ, Array.replicate_zero, List.push_toArray, List.append_toArray, List.nil_append, List.cons_append]
  gi_wp2_with (first
    | (gi_at_range; refine in_range_raw rfl _ 75 rfl Tryz.underlying75 b _ clock rfl hb ?_)
    | gi_in)
  go_frame
  gi_loopw [3] (fun _ wr => ∃ (done : List (Int × Nat)) (S : Array Nat) (c0 : Nat), (∀ p ∈ done, p ∈ ks) ∧ (done.map (·.2)).Nodup ∧ Hid (∀ x, InA S x ↔ x ∈ done.map (·.2)) ∧ wr.heap[W.heap.size]? = some (.mapIter (some b) clock S c0) ∧ clock ≤ c0 ∧ wr.heap[b]? = some (.map E clock) ∧ J (keysOf done) wr)
    (fun _ wr => wr.rangeLeft b W.heap.size)
  case atStart =>
    exact ⟨[], #[], clock, by simp, by simp, ⟨by simp [InA]⟩, World.alloc_heap_new _ _, Nat.le_refl _, (Below.heap_alloc _ _ b (Array.getElem?_eq_some_iff.1 hb).1).trans hb, hJ [] W _ none h0 (grown_alloc _ _) (fun r e => by cases e)⟩
  case round =>
    obtain ⟨done, S, c0, hsub, hdn, hS, hr, hc0, hbr, hJs⟩ := hrel
    gi_wp2_with (first
      | (gi_at_next; refine in_next_raw rfl _ rfl W.heap.size b clock c0 S E clock rfl hr hbr hborn hc0 ?_ ?_)
      | gi_in)
    · intro hall
      gi_wp2
      go_end0
      have hp := done_perm hsub hdn hnd fun p hp => (hS.out _).1 (hall (pmEntry p) ((hE.out _).2 ⟨p, hp, rfl⟩))
      exact ⟨⟨_, rfl⟩, keysOf done, hp.map _, hJs⟩
    · intro x hx hnot w2 hg2 hs2 hr2 hb2
      obtain ⟨p, hp, rfl⟩ := (hE.out _).1 hx
      have hnot' : p.2 ∉ done.map (·.2) := fun h => hnot ((hS.out _).2 h)
      have hJ2 : J (keysOf done) w2 := hJ _ wr w2 (some W.heap.size) hJs hg2 (fun r e => by cases e; exact ⟨Nat.le_refl _, _, hr, rfl⟩)
      have hdn2 : ((done ++ [p]).map (·.2)).Nodup := by
        rw [List.map_append]
        refine List.nodup_append.2 ⟨hdn, by simp, fun a ha b hb => ?_⟩
        simp only [List.map_cons, List.map_nil, List.mem_singleton] at hb
        subst hb
        rintro rfl
        exact hnot' ha
      have hsub2 : ∀ q ∈ done ++ [p], q ∈ ks := fun q hq => by
        rcases List.mem_append.1 hq with hq | hq
        · exact hsub q hq
        · simp only [List.mem_singleton] at hq; subst hq; exact hp
      have hlen : (keysOf done).length < ks.length := by
        have := nodup_le (nodup_of_map hdn2) hsub2
        simp only [keysOf, List.length_map, List.length_append, List.length_cons, List.length_nil] at this ⊢
        omega
      obtain ⟨fn, tmps, assign, body, hy, hR⟩ := hY (keysOf done) p.1 w2 hJ2 hlen
      have hen : (Instr.entry (.pointer (some ⟨W.heap.size, 0, none⟩))).run Tryz.prog w2 = .ok (.tuple #[encZ p.1, .agg #[]]) w2 := run_entry_at w2 W.heap.size b clock S E clock (pmEntry p) hr2 hb2 hx hEn
      have hmes : w2.rangeLeft b W.heap.size < wr.rangeLeft b W.heap.size := by
        rw [rangeLeft_of hr2 hb2, rangeLeft_of hr hbr]
        exact leftOf_lt hx hnot
      have hS2 : Hid (∀ x, InA (S.push (pmEntry p).born) x ↔ x ∈ (done ++ [p]).map (·.2)) := ⟨fun x => by
        have := hS.out x
        simp only [InA, Array.toList_push, List.mem_append, List.mem_singleton, List.map_append, List.map_cons, List.map_nil] at this ⊢
        rw [this]; rfl⟩
      clear hs2
      have ek : (pmEntry p).key = encZ p.1 := rfl
      have ev : (pmEntry p).val = .agg #[] := rfl
      rw [ek, ev]
      have hcl : clock ≤ clock := Nat.le_refl _
      have hk2 : keysOf (done ++ [p]) = keysOf done ++ [p.1] := by simp [keysOf]
      generalize S.push (pmEntry p).born = S2 at hr2 hS2
      gi_wp2
      refine hR.mono ?_
      rintro e W3 ⟨rfl, hJ3, hk3⟩
      gi_wp2
      have hr3 := hk3.same _ _ hr2 rfl
      have hb3 := hk3.same _ _ hb2 rfl
      go_roundw
      case rel => exact ⟨done ++ [p], S2, clock, hsub2, hdn2, hS2, hr3, hcl, hb3, by rw [hk2]; exact hJ3⟩
      case measure => rw [rangeLeft_of hr3 hb3, ← rangeLeft_of hr2 hb2]; exact hmes

end Go.Proofs.YtdpielghjaehbaaGreat.Ev

/- maps.Keys at what is known: its iterator gives the keys, each once, in some order. -/
set_option linter.unusedSectionVars false
set_option linter.unusedSimpArgs false
set_option linter.unusedVariables false
namespace Go.Proofs.YtdpielghjaehbaaGreat.Ev
open Go.RowKit Go.Maps Go.Sort Go.Shelf Go.Proofs

theorem keysZ_gives (n Bm b : Nat) (hn : 1 ≤ n) (ks : List (Int × Nat)) (clock : Nat) (hw : Wf ks clock) (w : World) (hBm : Bm < w.heap.size) (hm : w.cell? ⟨Bm, 0, none⟩ = some (.map (some b))) (hb : w.heap[b]? = some (.map (ks.map pmEntry).toArray clock)) :
    SeqGives Fence.wide n Tryz.prog 66 #[.pointer (some ⟨Bm, 0, none⟩)] encZ (fun ss => ss.Perm (keysOf ks)) ks.length w := fun l J W hW hJ hY h0 => by
  refine keysZ_in n l Bm b hn ks (ks.map pmEntry).toArray ⟨fun x => ?_⟩ ?_ clock ?_ hw.stamps J hY W hJ ((hW.cell (p := ⟨Bm, 0, none⟩) hBm).trans hm) ((hW.block b (Array.getElem?_eq_some_iff.1 hb).1).trans hb) h0
  · simp only [InA, List.mem_map]
    exact ⟨fun ⟨p, h1, h2⟩ => ⟨p, h1, h2.symm⟩, fun ⟨p, h1, h2⟩ => ⟨p, h1, h2.symm⟩⟩
  · simpa [Function.comp_def, pmEntry] using hw.stamps
  · intro x hx
    obtain ⟨p, hp, rfl⟩ := List.mem_map.1 (show x ∈ ks.map pmEntry from hx)
    exact hw.born p hp

theorem nodup_le' {α : Type} {l m : List α} (h : l.Nodup) (hs : ∀ x ∈ l, x ∈ m) : l.length ≤ m.length := by
  classical
  exact nodup_le h hs

/-- A key as a value. -/
def encK (x : List UInt8 × Int) : Value := .agg #[.string ⟨x.1.toArray⟩, .int .i64 x.2]

/-- An entry of what is known, its set a value of any kind. -/
def kmE (x : List UInt8 × Int) (v : Value) (born : Nat) : MapEntry := { key := encK x, val := v, born := born }

set_option maxRecDepth 100000 in
set_option maxHeartbeats 1000000 in
theorem keysK_in (n l Bm b : Nat) (hn : 1 ≤ n) (ks : List (List UInt8 × Int × Value × Nat)) (E : Array MapEntry) (hE : Hid (∀ x, InA E x ↔ ∃ p ∈ ks, x = kmE (p.1, p.2.1) p.2.2.1 p.2.2.2)) (hEn : (E.toList.map (·.born)).Nodup) (clock : Nat) (hborn : ∀ x ∈ E.toList, x.born < clock) (hnd : (ks.map (·.2.2.2)).Nodup) (J : List (List UInt8 × Int) → World → Prop)
    (hY : ∀ pre x W, J pre W → pre.length < ks.length → YieldAt Fence.wide (n - 1) Tryz.prog l #[encK x] W fun e W' => e = .returned (.bool true) ∧ J (pre ++ [x]) W' ∧ KeepsWalks W W')
    (W : World) (hJ : AbidesFrom W.heap.size J) (hm : W.cell? ⟨Bm, 0, none⟩ = some (.map (some b))) (hb : W.heap[b]? = some (.map E clock)) (h0 : J [] W) :
    CallsIn Fence.wide n Tryz.prog 53 #[.func (.yield l) #[] #[], .pointer (some ⟨Bm, 0, none⟩)] W fun e W' => (∃ v, e = .returned v) ∧ ∃ ss : List (List UInt8 × Int), ss.Perm (ks.map fun p => (p.1, p.2.1)) ∧ J ss W' := by
  have hF : Fence.wide.fn 53 := trivial
  refine callsIn_of_wp Tryz.func53 rfl trivial ?_ rfl
  simp only [Tryz.ntmps53, List.size_toArray, List.length_cons, List.length_nil, Nat.reduceAdd, Nat.reduceSub, Array.replicate_succ, Array.replicate_zero, List.push_toArray, List.append_toArray, List.nil_append, List.cons_append]
  gi_wp2_with (first
    | (gi_at_range; refine in_range_raw rfl _ 71 rfl Tryz.underlying71 b _ clock rfl hb ?_)
    | gi_in)
  go_frame
  gi_loopw [3] (fun _ wr => ∃ (done : List (List UInt8 × Int × Value × Nat)) (S : Array Nat) (c0 : Nat), (∀ p ∈ done, p ∈ ks) ∧ (done.map (·.2.2.2)).Nodup ∧ Hid (∀ x, InA S x ↔ x ∈ done.map (·.2.2.2)) ∧ wr.heap[W.heap.size]? = some (.mapIter (some b) clock S c0) ∧ clock ≤ c0 ∧ wr.heap[b]? = some (.map E clock) ∧ J (done.map fun p => (p.1, p.2.1)) wr)
    (fun _ wr => wr.rangeLeft b W.heap.size)
  case atStart =>
    exact ⟨[], #[], clock, by simp, by simp, ⟨by simp [InA]⟩, World.alloc_heap_new _ _, Nat.le_refl _, (Below.heap_alloc _ _ b (Array.getElem?_eq_some_iff.1 hb).1).trans hb, hJ [] W _ none h0 (grown_alloc _ _) (fun r e => by cases e)⟩
  case round =>
    obtain ⟨done, S, c0, hsub, hdn, hS, hr, hc0, hbr, hJs⟩ := hrel
    gi_wp2_with (first
      | (gi_at_next; refine in_next_raw rfl _ rfl W.heap.size b clock c0 S E clock rfl hr hbr hborn hc0 ?_ ?_)
      | gi_in)
    · intro hall
      gi_wp2
      go_end0
      have hp := done_perm hsub hdn hnd fun p hp => (hS.out _).1 (hall _ ((hE.out _).2 ⟨p, hp, rfl⟩))
      exact ⟨⟨_, rfl⟩, done.map fun p => (p.1, p.2.1), hp.map _, hJs⟩
    · intro x hx hnot w2 hg2 hs2 hr2 hb2
      obtain ⟨⟨pn, pa, pv, pb⟩, hp, rfl⟩ := (hE.out _).1 hx
      have hnot' : pb ∉ done.map (·.2.2.2) := fun h => hnot ((hS.out _).2 h)
      have hJ2 : J (done.map fun p => (p.1, p.2.1)) w2 := hJ _ wr w2 (some W.heap.size) hJs hg2 (fun r e => by cases e; exact ⟨Nat.le_refl _, _, hr, rfl⟩)
      have hdn2 : ((done ++ [(pn, pa, pv, pb)]).map (·.2.2.2)).Nodup := by
        rw [List.map_append]
        refine List.nodup_append.2 ⟨hdn, by simp, fun a ha b hb => ?_⟩
        simp only [List.map_cons, List.map_nil, List.mem_singleton] at hb
        subst hb
        rintro rfl
        exact hnot' ha
      have hsub2 : ∀ q ∈ done ++ [(pn, pa, pv, pb)], q ∈ ks := fun q hq => by
        rcases List.mem_append.1 hq with hq | hq
        · exact hsub q hq
        · simp only [List.mem_singleton] at hq; subst hq; exact hp
      have hlen : (done.map fun p => (p.1, p.2.1)).length < ks.length := by
        have := nodup_le' (nodup_of_map hdn2) hsub2
        simp only [List.length_map, List.length_append, List.length_cons, List.length_nil] at this ⊢
        omega
      have hen : (Instr.entry (.pointer (some ⟨W.heap.size, 0, none⟩))).run Tryz.prog w2 = .ok (.tuple #[encK (pn, pa), pv]) w2 := run_entry_at w2 W.heap.size b clock S E clock (kmE (pn, pa) pv pb) hr2 hb2 hx hEn
      have hmes : w2.rangeLeft b W.heap.size < wr.rangeLeft b W.heap.size := by
        rw [rangeLeft_of hr2 hb2, rangeLeft_of hr hbr]
        exact leftOf_lt hx hnot
      have hS2 : Hid (∀ x, InA (S.push (kmE (pn, pa) pv pb).born) x ↔ x ∈ (done ++ [(pn, pa, pv, pb)]).map (·.2.2.2)) := ⟨fun x => by
        have := hS.out x
        simp only [InA, Array.toList_push, List.mem_append, List.mem_singleton, List.map_append, List.map_cons, List.map_nil] at this ⊢
        rw [this]; rfl⟩
      clear hs2
      have ek : (kmE (pn, pa) pv pb).key = encK (pn, pa) := rfl
      have ev : (kmE (pn, pa) pv pb).val = pv := rfl
      rw [ek, ev]
      have hcl : clock ≤ clock := Nat.le_refl _
      have hk2 : (done ++ [(pn, pa, pv, pb)]).map (fun p => (p.1, p.2.1)) = (done.map fun p => (p.1, p.2.1)) ++ [(pn, pa)] := by simp
      generalize S.push (kmE (pn, pa) pv pb).born = S2 at hr2 hS2
      have hJ3 := hJ _ w2 (w2.alloc (.cells #[.string ⟨pn.toArray⟩, .int .i64 pa] 80)) none hJ2 (grown_alloc _ _) (fun r e => by cases e)
      have hr3 : (w2.alloc (.cells #[.string ⟨pn.toArray⟩, .int .i64 pa] 80)).heap[W.heap.size]? = some (.mapIter (some b) clock S2 clock) := (Below.heap_alloc _ _ _ (Array.getElem?_eq_some_iff.1 hr2).1).trans hr2
      have hb3 : (w2.alloc (.cells #[.string ⟨pn.toArray⟩, .int .i64 pa] 80)).heap[b]? = some (.map E clock) := (Below.heap_alloc _ _ _ (Array.getElem?_eq_some_iff.1 hb2).1).trans hb2
      obtain ⟨fn, tmps, assign, body, hy, hR⟩ := hY _ (pn, pa) _ hJ3 hlen
      unfold encK at hen hy ⊢
      simp only at hy
      gi_wp2
      refine hR.mono ?_
      rintro e W3 ⟨rfl, hJ4, hk3⟩
      gi_wp2
      have hr4 := hk3.same _ _ hr3 rfl
      have hb4 := hk3.same _ _ hb3 rfl
      go_roundw
      case rel => exact ⟨done ++ [(pn, pa, pv, pb)], S2, clock, hsub2, hdn2, hS2, hr4, hcl, hb4, by rw [hk2]; exact hJ4⟩
      case measure => rw [rangeLeft_of hr4 hb4, ← rangeLeft_of hr2 hb2]; exact hmes

end Go.Proofs.YtdpielghjaehbaaGreat.Ev

/- slices.Collect at keys of a text and a number, against whatever iterator. -/
set_option linter.unusedSectionVars false
set_option linter.unusedSimpArgs false
set_option linter.unusedVariables false
namespace Go.Proofs.YtdpielghjaehbaaGreat.Ev
open Go.RowKit Go.Maps Go.Sort Go.Shelf Go.Proofs

def rangeParts : Code → Option (Code × Code)
  | .rangeFunc _ _ a b => some (a, b)
  | .seq a b => match rangeParts a with
    | some x => some x
    | none => rangeParts b
  | .block _ c => rangeParts c
  | _ => none

/-- What a round of AppendSeq assigns, and its body. -/
noncomputable def kParts : Code × Code := match Tryz.f52.body with
  | some c => (rangeParts c).getD (.skip, .skip)
  | none => (.skip, .skip)

noncomputable def kRec (fn : FuncId) (sv : Value) (Bs D : Nat) (st : LoopState) (pend : Option Code) : Loop :=
  { state := st, pending := pend, fn, tmps := #[.slice none 0 0, sv, .pointer (some ⟨Bs, 0, none⟩), undef, .slice none 0 0, undef, sv, undef, undef, undef, undef, undef, undef], params := #[7], assign := kParts.1, body := kParts.2, defers := D }

def cellsK (x : List UInt8 × Int) : List Value := [.string ⟨x.1.toArray⟩, .int .i64 x.2]

/-- Between two rounds. -/
structure KAt (w0 : World) (fn : FuncId) (sv : Value) (Bs l D : Nat) (ss : List (List UInt8 × Int)) (W : World) : Prop where
  box : ∃ v, W.heap[Bs]? = some (.cells #[v] 77 (0, 0)) ∧ W.ownsRow w0.heap.size 80 2 v ss.length (ss.flatMap cellsK) ∧ (v = .slice none 0 0 ↔ ss = [])
  L : W.heap[l]? = some (.loop (kRec fn sv Bs D .ready none))
  K : W.heap[D]? = some (.deferred (some []))
  below : Below w0.heap.size w0 W

theorem k_abides (w0 : World) (fn : FuncId) (sv : Value) (Bs l D B : Nat) (hB : w0.heap.size ≤ B) : AbidesFrom B (KAt w0 fn sv Bs l D) := fun s W W' row h hg hrow => by
  have hrow' : ∀ r, row = some r → ∃ o : Obj, W.heap[r]? = some o ∧ o.isWalk = true := fun r e => (hrow r e).2
  obtain ⟨v, hv, hr, hn⟩ := h.box
  exact ⟨⟨v, (grownBy_keeps hg hrow' hv rfl).trans hv, ownsRow_abides_a hr hg hrow', hn⟩, (grownBy_keeps hg hrow' h.L rfl).trans h.L, (grownBy_keeps hg hrow' h.K rfl).trans h.K,
    h.below.grown hg h.below.size (fun k e => Nat.le_trans hB (hrow k e).1)⟩

theorem cell_two_new (w : World) (x y : Value) (t : TypeId) : ∀ j u, [x, y][j]? = some u → (w.alloc (.cells #[x, y] t)).cell? ((⟨w.heap.size, 0, none⟩ : Addr).add j) = some u := by
  intro j u hj
  match j, hj with
  | 0, hj => simp at hj; subst hj; simp [Addr.add]
  | 1, hj => simp at hj; subst hj; simp [Addr.add]

theorem infoK : (Tryz.prog.info? 80).map (fun i => (i.zero, i.size, i.bytes)) = some (some (.agg #[.string ⟨#[]⟩, .int .i64 0]), 2, 24) := by kernel_rfl

set_option maxRecDepth 100000 in
set_option maxHeartbeats 2000000 in
theorem kYield (m : Nat) (w0 : World) (fn : FuncId) (sv : Value) (Bs l D : Nat) (hBl : Bs ≠ l) (hDl : D ≠ l) (hDB : D ≠ Bs) (h0B : w0.heap.size ≤ Bs) (h0l : w0.heap.size ≤ l)
    (N : Nat) (hN : N ≤ maxLen) (hNb : N * 24 ≤ 140737488355328) (ss : List (List UInt8 × Int)) (x : List UInt8 × Int) (W : World) (h : KAt w0 fn sv Bs l D ss W) (hlen : ss.length < N) :
    YieldAt Fence.wide m Tryz.prog l #[encK x] W fun e W' => e = .returned (.bool true) ∧ KAt w0 fn sv Bs l D (ss ++ [x]) W' ∧ KeepsWalks W W' := by
  have hfn : Fence.wide.fn fn := trivial
  have hne : 77 ≠ 80 := by decide
  obtain ⟨i0, hi, hz0, hz1, hz2⟩ := info_parts infoK
  refine ⟨fn, #[.slice none 0 0, sv, .pointer (some ⟨Bs, 0, none⟩), undef, .slice none 0 0, undef, sv, encK x, undef, undef, undef, undef, undef], kParts.1, kParts.2, by simpa [kRec] using run_yield (P := Tryz.prog) (args := #[encK x]) h.L rfl, roundIn_of_wpIn hfn ?_⟩
  have hlW : l < W.heap.size := (Array.getElem?_eq_some_iff.1 h.L).1
  have ha : KAt w0 fn sv Bs l D ss (W.alloc (.cells #[.string ⟨x.1.toArray⟩, .int .i64 x.2] 80)) := k_abides w0 fn sv Bs l D w0.heap.size (Nat.le_refl _) ss W _ none h (grown_alloc _ _) (fun r e => by cases e)
  have hka : KeepsWalks W (W.alloc (.cells #[.string ⟨x.1.toArray⟩, .int .i64 x.2] 80)) := KeepsWalks.alloc _ _
  have hxa := World.alloc_heap_new W (.cells #[.string ⟨x.1.toArray⟩, .int .i64 x.2] 80)
  simp only [kParts, Tryz.f52, rangeParts, Option.getD_some]
  unfold encK
  gi_wp2_with gi_round_op_a
  obtain ⟨Wa, hWa⟩ : ∃ Wa, W.alloc (.cells #[.string ⟨x.1.toArray⟩, .int .i64 x.2] 80) = Wa := ⟨_, rfl⟩
  rw [hWa] at ha hka hxa ⊢
  clear hWa
  obtain ⟨X, hX⟩ : ∃ X, W.heap.size = X := ⟨_, rfl⟩
  rw [hX] at hxa hlW ⊢
  clear hX
  obtain ⟨v, hv, hrow, _⟩ := ha.box
  have hl : l < Wa.heap.size := (Array.getElem?_eq_some_iff.1 ha.L).1
  have hbr := run_beginRound (P := Tryz.prog) ha.L rfl
  obtain ⟨W2, hW2⟩ : ∃ W2, Wa.putObj l (.loop { kRec fn sv Bs D .ready none with state := .busy }) = W2 := ⟨_, rfl⟩
  rw [hW2] at hbr
  have hg2 : Wa.grownBy W2 (some l) := by rw [← hW2]; exact grownBy_putObj_a _ _ _
  have hk2 : KeepsWalks W W2 := hka.trans (by rw [← hW2]; exact KeepsWalks.putObj _ ha.L rfl)
  have hv2 : W2.heap[Bs]? = some (.cells #[v] 77 (0, 0)) := by rw [← hW2]; exact (World.putObj_heap_other hBl).trans hv
  have hX2 : W2.heap[X]? = some (.cells #[.string ⟨x.1.toArray⟩, .int .i64 x.2] 80 (0, 0)) := by rw [← hW2]; exact (World.putObj_heap_other (by omega)).trans hxa
  have hK2 : W2.heap[D]? = some (.deferred (some [])) := by rw [← hW2]; exact (World.putObj_heap_other hDl).trans ha.K
  have hL2 : W2.heap[l]? = some (.loop { kRec fn sv Bs D .ready none with state := .busy }) := by rw [← hW2]; exact World.putObj_heap_same hl
  have hrow2 : W2.ownsRow w0.heap.size 80 2 v ss.length (ss.flatMap cellsK) := hrow.kept hg2 (ownsRow_ne_a hrow ha.L (fun cur e => by first | cases e | exact hne (Obj.cells.inj e).2.1))
  have hb2 : Below w0.heap.size w0 W2 := ha.below.grown hg2 ha.below.size (fun k e => by cases e; exact h0l)
  obtain ⟨hc2, hf2⟩ := cell_of_box_a hv2
  have hx0 : W2.cell? ⟨X, 0, none⟩ = some (.string ⟨x.1.toArray⟩) := by simp [World.cell?, hX2]
  have hx1 : W2.cell? ⟨X, 1, none⟩ = some (.int .i64 x.2) := by simp [World.cell?, hX2]
  have hBlt : Bs < W2.heap.size := (Array.getElem?_eq_some_iff.1 hv2).1
  have hl2 : l < W2.heap.size := (Array.getElem?_eq_some_iff.1 hL2).1
  have hDlt : D < W2.heap.size := (Array.getElem?_eq_some_iff.1 hK2).1
  have ne_of : ∀ {j : Nat} {o : Obj}, W2.heap[j]? = some o → (∀ cur, o ≠ .cells cur 80 (0, 0)) → some j ≠ v.ownBlock := fun hj hno => by
    rcases ownsRow_ne_a hrow2 hj hno with e | e
    · rw [e]; simp
    · exact fun e' => e e'.symm
  clear hW2
  refine ⟨W2, hbr, ?_⟩
  gi_wp2_with (first
    | (gi_at_builtin; refine wpListIn_append_own _ rfl _ _ 77 rfl w0.heap.size 80 i0 _ 2 24 Tryz.underlying77 hi hz0 hz1 hz2 rfl (by decide) _ _ _ rfl (hrow2.alloc _) ⟨W2.heap.size, 0, none⟩ 1 1 (cellsK x) rfl rfl (cell_two_new _ _ _ _) (by simp [Value.oneCell', cellsK]) (by omega) (by omega) (by have := hb2.size; simp; omega) ?_; intro v' w3 hown' hg3 hnil3
       have hv3 : w3.heap[Bs]? = some (.cells #[v] 77 (0, 0)) := (hg3.block Bs (by simp; omega) (ne_of hv2 (fun cur e => by first | cases e | exact hne (Obj.cells.inj e).2.1))).trans ((Below.heap_alloc _ _ Bs hBlt).trans hv2)
       obtain ⟨hc3, hf3⟩ := cell_of_box_a hv3
       obtain ⟨g', cap', cur', rfl, hbase', hgb', hr1, hr2, hr3, hr4⟩ : ∃ g' cap' cur', v' = .slice (some ⟨g', 0, none⟩) (ss.length + 1) cap' ∧ w0.heap.size ≤ g' ∧ w3.heap[g']? = some (.cells cur' 80 (0, 0)) ∧ ss.length + 1 ≤ cap' ∧ cap' ≤ maxLen ∧ cur'.size = cap' * 2 ∧ cur'.toList.take ((ss.length + 1) * 2) = ss.flatMap cellsK ++ cellsK x := by
         rcases hown'.2 with ⟨_, h0⟩ | h'
         · exact absurd h0 (by omega)
         · exact h'
       go_frame)
    | gi_round_op_a)
  have hg3' : (W2.alloc (.cells #[.string ⟨x.1.toArray⟩, .int .i64 x.2] 80)).grownBy w3 v.ownBlock := hg3
  have hL3 : w3.heap[l]? = some (.loop { kRec fn sv Bs D .ready none with state := .busy }) := (hg3'.block l (by simp; omega) (ne_of hL2 (fun cur e => by first | cases e | exact hne (Obj.cells.inj e).2.1))).trans ((Below.heap_alloc _ _ l hl2).trans hL2)
  have hK3 : w3.heap[D]? = some (.deferred (some [])) := (hg3'.block D (by simp; omega) (ne_of hK2 (fun cur e => by first | cases e | exact hne (Obj.cells.inj e).2.1))).trans ((Below.heap_alloc _ _ D hDlt).trans hK2)
  obtain ⟨w4, hw4⟩ : ∃ w4, w3.setCell ⟨Bs, 0, none⟩ (.slice (some ⟨g', 0, none⟩) (ss.length + 1) cap') = w4 := ⟨_, rfl⟩
  rw [hw4]
  have hg4 : w3.grownBy w4 (some Bs) := by rw [← hw4]; exact grownBy_setCell0_a _ _ _
  have hv4 : w4.heap[Bs]? = some (.cells #[.slice (some ⟨g', 0, none⟩) (ss.length + 1) cap'] 77 (0, 0)) := by rw [← hw4]; exact heap_setCell_box_a _ hv3
  have hL4 : w4.heap[l]? = some (.loop { kRec fn sv Bs D .ready none with state := .busy }) := (hg4.block l (Array.getElem?_eq_some_iff.1 hL3).1 (fun e => hBl (by cases e; rfl))).trans hL3
  have hK4 : w4.heap[D]? = some (.deferred (some [])) := (hg4.block D (Array.getElem?_eq_some_iff.1 hK3).1 (fun e => hDB (by cases e; rfl))).trans hK3
  have hrow4 := hown'.kept hg4 (ownsRow_ne_a hown' hv3 (fun cur e => by first | cases e | exact hne (Obj.cells.inj e).2.1))
  have hl4 : l < w4.heap.size := (Array.getElem?_eq_some_iff.1 hL4).1
  have hb3 : Below w0.heap.size w0 w3 := (hb2.alloc hb2.size _).grown hg3' (by have := hb2.size; simp; omega) (fun k e => (hrow2.lt k e).1)
  have hb4 : Below w0.heap.size w0 w4 := hb3.grown hg4 hb3.size (fun k e => by cases e; exact h0B)
  have hk4 : KeepsWalks W w4 := ((hk2.trans (KeepsWalks.alloc _ _)).trans (KeepsWalks.of_grownBy hg3' (ownsRow_not_walk_a (hrow2.alloc _)))).trans (by rw [← hw4]; exact KeepsWalks.setCell _ _ _)
  clear hw4
  refine ⟨_, _, run_endRound none hL4, rfl, ⟨⟨_, (World.putObj_heap_other hBl).trans hv4, ?_, by simp⟩, World.putObj_heap_same hl4, (World.putObj_heap_other hDl).trans hK4, hb4.grown (grownBy_putObj_a _ _ _) hb4.size (fun k e => by cases e; exact h0l)⟩, hk4.trans (KeepsWalks.putObj _ hL4 rfl)⟩
  have := hrow4.kept (grownBy_putObj_a w4 l (.loop { { kRec fn sv Bs D .ready none with state := .busy } with state := if (none : Option Code).isNone then .ready else .done, pending := none })) (ownsRow_ne_a hrow4 hL4 (fun cur e => by first | cases e | exact hne (Obj.cells.inj e).2.1))
  simpa using this

end Go.Proofs.YtdpielghjaehbaaGreat.Ev
