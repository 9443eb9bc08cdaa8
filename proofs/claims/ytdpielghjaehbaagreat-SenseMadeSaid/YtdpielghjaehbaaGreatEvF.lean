/- The evaluator is sound: literals, built-ins, calls; an operation as a whole. -/
import Derived.Test.YtdpielghjaehbaaGreatEvB
import Derived.Great.BuildSlice
import Derived.Deep.Upon
import Derived.Laws.MakeOwn
import Derived.Laws.StructEq
import Derived.MapKept
set_option linter.unusedSectionVars false
set_option linter.unusedSimpArgs false
set_option linter.unusedVariables false
namespace Go.Proofs.YtdpielghjaehbaaGreat.Ev
open Go.RowKit

section
variable {P : Program} {E : Env} {B0 : Nat} {B : List Seg} {d d' : Seg} {al : Nat → Prop} {n n' : Nat} {ρ : Rho} {w : World} {s : Slots} {a : Act} {o : Oper} {v : AV}

theorem fold_splice (l p : List Value) (off : Nat) (h : off + p.length ≤ l.length) :
    p.toArray.zipIdx.foldl (fun cs (x : Value × Nat) => cs.setIfInBounds (off + x.2) x.1) l.toArray = (l.take off ++ p ++ l.drop (off + p.length)).toArray := by
  rw [← Array.foldl_toList, Array.toList_zipIdx]
  obtain ⟨h1, h2⟩ := Go.Great.foldl_set off p 0 l.toArray
  simp only [Nat.add_zero] at h2
  refine Array.ext_getElem? fun k => ?_
  have := h2 k
  simp only [] at this ⊢
  rw [this]
  simp only [List.size_toArray, List.getElem?_toArray]
  by_cases hk : off ≤ k
  · by_cases hk2 : k < off + p.length
    · rw [if_pos ⟨hk, hk2, by omega⟩, List.append_assoc, List.getElem?_append_right (by simp; omega), List.getElem?_append_left (by simp; omega)]
      congr 1
      simp; omega
    · rw [if_neg (by omega), List.getElem?_append_right (by simp; omega), List.getElem?_drop]
      congr 1
      simp; omega
  · rw [if_neg (by omega), List.append_assoc, List.getElem?_append_left (by simp; omega), List.getElem?_take_of_lt (by omega)]

theorem fill_sound (hs : SlotsOk ρ al s a) (place : Nat → Option (Nat × Nat)) : ∀ (parts : List (Nat × Operand)) (ps : List (Nat × List AC)) (l l' : List AC), partsOf s parts = some ps → spliceAll place l ps = some l' → (∀ x ∈ l, x.ok al) →
    Instr.fill place (concs ρ l).toArray (parts.map fun p => (p.1, a.eval p.2)) = some (concs ρ l').toArray ∧ ∀ x ∈ l', x.ok al
  | [], ps, l, l', hp, hl, hok => by
    simp only [partsOf, Option.some.injEq] at hp; subst hp
    simp only [spliceAll, Option.some.injEq] at hl; subst hl
    exact ⟨rfl, hok⟩
  | (i, x) :: r, ps, l, l', hp, hl, hok => by
    have key : ∃ u vs, val s x = some u ∧ partsOf s r = some vs ∧ ps = (i, cellsOf u) :: vs ∧ (a.eval x).cells = (concs ρ (cellsOf u)).toArray ∧ ∀ c ∈ cellsOf u, c.ok al := by
      simp only [partsOf] at hp
      split at hp
      · rename_i c vs h1 h2
        split at hp
        · rename_i hc
          simp only [Option.some.injEq] at hp; subst hp
          obtain ⟨e, k⟩ := val_conc hs h1
          refine ⟨_, vs, h1, h2, rfl, ?_, ?_⟩
          · rw [e]; exact conc_cells hc
          · intro c' hc'; simp only [cellsOf, List.mem_singleton] at hc'; subst hc'; exact k
        · cases hp
      · rename_i l2 vs h1 h2
        split at hp
        · rename_i hc
          simp only [Option.some.injEq] at hp; subst hp
          obtain ⟨e, k⟩ := val_conc hs h1
          exact ⟨_, vs, h1, h2, rfl, by rw [e]; rfl, k⟩
        · cases hp
      · cases hp
    obtain ⟨u, vs, h1, h2, rfl, hcell, hoku⟩ := key
    simp only [spliceAll] at hl
    split at hl
    · cases hl
    · rename_i off size hpl
      split at hl
      · rename_i hc
        simp only [Bool.and_eq_true, beq_iff_eq, decide_eq_true_eq] at hc
        have hok' : ∀ c ∈ splice l off (cellsOf u), c.ok al := by
          intro c hc
          simp only [splice, List.mem_append] at hc
          rcases hc with (hc | hc) | hc
          · exact hok c (List.mem_of_mem_take hc)
          · exact hoku c hc
          · exact hok c (List.mem_of_mem_drop hc)
        obtain ⟨g1, g2⟩ := fill_sound hs place r vs _ l' h2 hl hok'
        refine ⟨?_, g2⟩
        simp only [List.map_cons, Instr.fill, hpl, hcell]
        rw [if_neg (by simp [length_concs]; omega)]
        have hf := fold_splice (concs ρ l) (concs ρ (cellsOf u)) off (by rw [length_concs, length_concs]; omega)
        rw [← concs_splice] at hf
        rw [← g1]
        congr 1
      · cases hl

variable (h : Rep E B0 ⟨d :: B, al, n, ρ, w⟩) (hE : EnvOk P E) (hs : SlotsOk ρ al s a)
include h hE hs

theorem places_eq : ∀ (fs : List Field), (fs.all fun f => (assoc E.tys f.type).isSome) = true → ∃ ps : List (Nat × Nat), (fs.mapM (fun f => (P.info? f.type).map fun i => (f.offset, i.size)) = some ps) ∧
    ∀ k : Nat, ps[k]? = (match fs[k]? with | some f => (match assoc E.tys f.type with | some r => some (f.offset, r.size) | none => none) | none => none)
  | [], _ => ⟨[], rfl, fun k => by simp⟩
  | f :: fs, hf => by
    simp only [List.all_cons, Bool.and_eq_true] at hf
    obtain ⟨ps, h1, h2⟩ := places_eq fs hf.2
    obtain ⟨r, hr⟩ := Option.isSome_iff_exists.1 hf.1
    obtain ⟨inf, z, g1, g2, g3, g4, g5⟩ := info_of h hE hs hr
    refine ⟨(f.offset, r.size) :: ps, by simp [g1, g2, h1], fun k => ?_⟩
    cases k with
    | zero => simp [hr]
    | succ k => simpa using h2 k

theorem goes_build {t : Nat} {r : TyRow} {parts : Array (Nat × Operand)} {ps : List (Nat × List AC)} {fields : Array Field} {l : List AC} (ho : o.op = .build t parts) (hr : assoc E.tys t = some r) (hp : partsOf s parts.toList = some ps)
    (hd : r.desc = .struct fields) (hz : r.zagg = true) (ha : allFields E fields = true) (hl : spliceAll (places E fields) r.zero ps = some l) : Goes P E B0 o a B d al n ρ w (.agg l) d n := by
  obtain ⟨inf, z, g1, g2, g3, g4, g5⟩ := info_of h hE hs hr
  have hu := (hE.tys t r hr).und
  rw [hd] at hu
  obtain ⟨pl, hpl, hk⟩ := places_eq h hE hs fields.toList ha
  obtain ⟨hf, hok⟩ := fill_sound hs _ _ _ _ _ hp hl (zero_ok h hE hs hr)
  have hplace : (fun x => pl.toArray[x]?) = places E fields := by
    funext k
    simp only [List.getElem?_toArray, hk, places]
    cases fields.toList[k]? <;> rfl
  have hb : P.built t (parts.map fun (i, x) => (i, a.eval x)).toList = some (concs ρ l).toArray := by
    unfold Program.built
    rw [g1, hu]
    simp only [g4, hpl, hplace, g5 ρ]
    rw [← hf]
    congr 1
    simp
  refine goes_same h ?_ hok
  have := run_build w t _ _ hb
  simp [execOp, ho, this, concV]

theorem goes_buildSlice {t e len : Nat} {r re : TyRow} {parts : Array (Nat × Operand)} {ps : List (Nat × List AC)} {l : List AC} (ho : o.op = .buildSlice t len parts) (hr : assoc E.tys t = some r) (hp : partsOf s parts.toList = some ps)
    (hd : r.desc = .slice e) (hre : assoc E.tys e = some re) (h0 : re.size ≠ 0) (hz : re.zero.length = re.size) (hlen : len ≠ 0) (hsm : len * re.size ≤ 100000)
    (hl : spliceAll (fun i => some (i * re.size, re.size)) ((List.range (len * re.size)).map fun i => re.zero.getD (i % re.size) .undef) ps = some l) (hll : l.length = len * re.size) :
    Goes P E B0 o a B d al n ρ w (.c (.sl n len)) ((n, some (.cells e l)) :: d) (n + 1) := by
  obtain ⟨inf, z, g1, g2, g3, g4, g5⟩ := info_of h hE hs hre
  have hu := (hE.tys t r hr).und
  rw [hd] at hu
  have hzok := zero_ok h hE hs hre
  have hok0 : ∀ x ∈ (List.range (len * re.size)).map (fun i => re.zero.getD (i % re.size) .undef), x.ok al := by
    intro x hx
    obtain ⟨i, hi, rfl⟩ := List.mem_map.1 hx
    have : i % re.size < re.zero.length := by rw [hz]; exact Nat.mod_lt _ (by omega)
    rw [List.getD, List.getElem?_eq_getElem this, Option.getD_some]
    exact hzok _ (List.getElem_mem this)
  obtain ⟨hf, hok⟩ := fill_sound hs _ _ _ _ _ hp hl hok0
  have hcells : (Array.range (len * re.size)).map (z.cells[· % z.cells.size]!) = (concs ρ ((List.range (len * re.size)).map fun i => re.zero.getD (i % re.size) .undef)).toArray := by
    apply Array.ext'
    simp only [Array.toList_map, Array.toList_range, concs, List.map_map]
    refine List.map_congr_left fun i hi => ?_
    have hlt : i % re.size < re.zero.length := by rw [hz]; exact Nat.mod_lt _ (by omega)
    simp only [Function.comp, g5 ρ, List.size_toArray, length_concs, hz]
    rw [List.getD, List.getElem?_eq_getElem hlt, Option.getD_some, getElem!_pos _ _ (by simp [length_concs]; exact hlt)]
    simp [concs]
  have hne : len * re.size ≠ 0 := Nat.mul_ne_zero hlen h0
  have hrun := run_buildSlice (P := P) w t e len (parts.map fun (i, x) => (i, a.eval x)) (concs ρ l).toArray inf z hu g1 g4 (by rw [g2]; omega) (by rw [g2]; omega) (by
    rw [g2, hcells, ← hf]
    congr 1
    simp)
  have hst := step_new (w1 := w) h (.cells e l) hok _ len (blk_row hre hll) ⟨rfl, rfl, rfl, rfl⟩
  refine goes_value (u := .slice (some ⟨w.heap.size, 0, none⟩) len len) _ ?_ rfl hst (.inr rfl) (by simp [concV, conc])
  simp [execOp, ho, hrun]

/-- A built-in's call, out of the run of the built-in. -/
theorem call_builtin {c : Call} {b : Builtin} {vs : List AV} {w' : World} {u : Value} (ho : o.op = .call c) (hb : c.callee = .builtin b) (hv : vals s c.args.toList = some vs)
    (hrun : ∀ consts, (builtin b c.argTypes o.type consts (vs.map (concV ρ)).toArray).run P w = .ok (.value u) w') : (execOp a.eval o).run P w = .ok (.value u) w' := by
  obtain ⟨e, k⟩ := vals_conc hs hv
  have he : c.args.map a.eval = (vs.map (concV ρ)).toArray := by
    apply Array.ext'
    simpa using e
  simp only [execOp, ho, Sem.run_bind, resolve, hb, Sem.run_pure, Result.andThen_ok, invoke, he]
  exact hrun _

theorem bsize (l : List UInt8) : (⟨l.toArray⟩ : ByteArray).size = l.length := List.size_toArray

/-- The first cells of an object, as the model loads them. -/
theorem cells_at {j k eo : Nat} {cj : List AC} (hoj : get (d :: B) j = some (.cells eo cj)) : ∀ q u, (concs ρ (cj.take k))[q]? = some u → w.cell? ((⟨(ρ j).1, 0, none⟩ : Addr).add q) = some u := by
  intro q u hq
  simp only [concs, List.getElem?_map] at hq
  obtain ⟨c, hc, rfl⟩ := Option.map_eq_some_iff.1 hq
  have hlt : q < k := by
    rcases Nat.lt_or_ge q k with hl | hl
    · exact hl
    · rw [List.getElem?_take_eq_none hl] at hc; cases hc
  rw [List.getElem?_take_of_lt hlt] at hc
  rw [Addr.add_lit, Nat.zero_add]
  exact h.cell hoj hc

theorem goes_append {c : Call} {t e : Nat} {rt re : TyRow} {x y : AC} (ho : o.op = .call c) (hb : c.callee = .builtin .append) (ht : c.argTypes = #[t, t]) (hv : vals s c.args.toList = some [.c x, .c y])
    (hrt : assoc E.tys t = some rt) (hd : rt.desc = .slice e) (hre : assoc E.tys e = some re) (hev : evAppend e re x y B d n = some (v, d', n')) : Goes P E B0 o a B d al n ρ w v d' n' := by
  have hu := (hE.tys t rt hrt).und
  rw [hd] at hu
  obtain ⟨_, kv⟩ := vals_conc hs hv
  obtain ⟨inf, z, g1, g2, g3, g4, g5⟩ := info_of h hE hs hre
  unfold evAppend at hev
  split at hev
  · cases hev
  rename_i hsz
  simp only [Bool.or_eq_true, not_or, Bool.not_eq_true, beq_eq_false_iff_ne, decide_eq_false_iff_not, bne_eq_false_iff_eq, Nat.not_lt] at hsz
  obtain ⟨⟨⟨hs0, hs1⟩, hs2⟩, hs3⟩ := hsz
  cases y with
  | sl0 => -- of nothing
    dsimp only at hev
    have hsrc : Src P inf.size t (.slice none 0 0) 0 [] w := by
      refine ⟨.inl ⟨e, hu⟩, fun _ => rfl, ?_, ?_, by simp, fun _ hx => by cases hx⟩ <;> rfl
    cases x with
    | sl0 =>
      simp only [Option.some.injEq, Prod.mk.injEq] at hev
      obtain ⟨rfl, rfl, rfl⟩ := hev
      refine goes_same h (call_builtin h hE hs ho hb hv fun consts => ?_) trivial
      have hrun := run_append_nothing (P := P) w t t o.type e inf hu g1 none 0 0 (Nat.le_refl 0) (.slice none 0 0) hsrc
      simp [Go.builtin, ht, concV, conc, hrun]
    | sl i len =>
      dsimp only at hev
      split at hev
      · rename_i ei ci hoi
        split at hev
        · rename_i hc
          simp only [Bool.and_eq_true, beq_iff_eq] at hc
          simp only [Option.some.injEq, Prod.mk.injEq] at hev
          obtain ⟨rfl, rfl, rfl⟩ := hev
          refine goes_same h (call_builtin h hE hs ho hb hv fun consts => ?_) (h.al i _ hoi).1
          obtain ⟨exs, hx1, r1, hr1, hl1⟩ := h.row hoi
          rw [hc.1, hre] at hr1
          simp only [Option.some.injEq] at hr1; subst hr1
          simp only at hl1
          have hlen : len ≤ (ρ i).2 := by
            have : len * re.size ≤ (ρ i).2 * re.size := by rw [← hl1, hc.2]; omega
            exact Nat.le_of_mul_le_mul_right this (by omega)
          have hrun := run_append_nothing (P := P) w t t o.type e inf hu g1 (some ⟨(ρ i).1, 0, none⟩) len (ρ i).2 hlen (.slice none 0 0) hsrc
          simp [Go.builtin, ht, concV, conc, hrun]
        · cases hev
      · cases hev
    | _ => cases hev
  | sl j m =>
    dsimp only at hev
    split at hev
    · rename_i ej cj hoj
      split at hev
      · cases hev
      rename_i hc
      simp only [Bool.or_eq_true, not_or, Bool.not_eq_true, beq_eq_false_iff_ne, decide_eq_false_iff_not, Nat.not_lt, Bool.not_eq_false'] at hc
      obtain ⟨⟨⟨hj0, hj1⟩, hj2⟩, hj3⟩ := hc
      have hcj : ∀ c ∈ cj, c.ok al := (h.al j _ hoj).2
      have hokj : ∀ c ∈ cj.take (m * re.size), c.ok al := fun c hc => hcj c (List.mem_of_mem_take hc)
      have hnl : (concs ρ (cj.take (m * re.size))).length = m * inf.size := by rw [length_concs, List.length_take, g2]; omega
      have hmb : m * inf.bytes ≤ 100000 * 1000 := by rw [g3]; exact Nat.mul_le_mul hj1 hs2
      cases x with
      | sl0 =>
        simp only [Option.some.injEq, Prod.mk.injEq] at hev
        obtain ⟨rfl, rfl, rfl⟩ := hev
        have hrun := run_append_nil (P := P) w t o.type e inf z hu g1 g4 ⟨(ρ j).1, 0, none⟩ m (ρ j).2 (concs ρ (cj.take (m * re.size))) hnl (cells_at h hE hs hoj) (by omega) (by omega) (by omega)
        have hzl : (Builtin.zeroCells z.cells (grownCap w m 0 e - m)).toList.length = (grownCap w m 0 e - m) * re.size := by
          rw [Array.length_toList, size_zeroCells, g5 ρ, List.size_toArray, length_concs, hs3]
        have hcap : m ≤ grownCap w m 0 e := by simp only [grownCap, Question.cut]; omega
        have hst := step_new (w1 := w.drew) h (.cells e (cj.take (m * re.size))) hokj (.cells (concs ρ (cj.take (m * re.size)) ++ (Builtin.zeroCells z.cells (grownCap w m 0 e - m)).toList).toArray e (0, 0)) (grownCap w m 0 e)
          ⟨_, rfl, re, hre, by rw [hzl, List.length_take, Nat.min_eq_left (by omega), ← Nat.add_mul]; congr 1; omega⟩ ⟨rfl, rfl, rfl, rfl⟩
        refine goes_value (u := .slice (some ⟨w.heap.size, 0, none⟩) m (grownCap w m 0 e)) _ ?_ rfl hst (show al n ∨ n = n from .inr rfl) (by simp [concV, conc])
        refine call_builtin h hE hs ho hb hv fun consts => ?_
        have he : (concs ρ (cj.take (m * re.size)) ++ (Builtin.zeroCells z.cells (grownCap w m 0 e - m)).toList).toArray = (concs ρ (cj.take (m * re.size))).toArray ++ Builtin.zeroCells z.cells (grownCap w m 0 e - m) := by
          apply Array.ext'; simp
        simp [Go.builtin, ht, concV, conc, hrun, he]
      | sl i len =>
        dsimp only at hev
        split at hev
        · rename_i ei ci hoi
          split at hev
          · cases hev
          rename_i hc
          simp only [Bool.or_eq_true, not_or, Bool.not_eq_true, beq_eq_false_iff_ne, decide_eq_false_iff_not, Nat.not_lt, bne_eq_false_iff_eq] at hc
          obtain ⟨⟨⟨hij, hie⟩, hil⟩, hi1⟩ := hc
          simp only [Option.some.injEq, Prod.mk.injEq] at hev
          obtain ⟨rfl, rfl, rfl⟩ := hev
          subst hie
          obtain ⟨exs, hx1, r1, hr1, hl1⟩ := h.row hoi
          rw [hre] at hr1
          simp only [Option.some.injEq] at hr1; subst hr1
          simp only at hl1 hx1
          have hci : ∀ c ∈ ci, c.ok al := (h.al i _ hoi).2
          have hok : ∀ c ∈ ci ++ cj.take (m * re.size), c.ok al := by
            intro c hc
            rcases List.mem_append.1 hc with hc | hc
            · exact hci c hc
            · exact hokj c hc
          have hnl' := hnl
          rw [g2] at hnl'
          by_cases hroom : len + m ≤ (ρ i).2
          · have hfit : (len + m) * re.size ≤ (ρ i).2 * re.size := Nat.mul_le_mul_right _ hroom
            rw [Nat.add_mul] at hfit
            have hrun := run_append_room (P := P) w t o.type ei inf hu g1 (ρ i).1 len (ρ i).2 _ hx1 ⟨(ρ j).1, 0, none⟩ m (ρ j).2 (concs ρ (cj.take (m * re.size))) hnl (cells_at h hE hs hoj)
              (oneCell_concs hj3) hroom (by rw [hnl', g2, List.size_toArray, List.length_append, length_concs]; omega)
            have he : (concs ρ ci ++ exs).take (len * inf.size) ++ concs ρ (cj.take (m * re.size)) ++ (concs ρ ci ++ exs).drop (len * inf.size + (concs ρ (cj.take (m * re.size))).length)
                = concs ρ (ci ++ cj.take (m * re.size)) ++ exs.drop (m * re.size) := by
              rw [hnl', g2, ← hil, List.take_append_of_le_length (by rw [length_concs]; exact Nat.le_refl _), List.take_of_length_le (by rw [length_concs]; exact Nat.le_refl _), concs_append]
              congr 1
              rw [← length_concs ρ ci, List.drop_append, List.drop_eq_nil_of_le (by omega), List.nil_append]
              congr 1
              omega
            simp only [he] at hrun
            have hst := step_grow h hoi (.cells ei (ci ++ cj.take (m * re.size))) hok (.cells (concs ρ (ci ++ cj.take (m * re.size)) ++ exs.drop (m * re.size)).toArray ei (0, 0))
              ⟨_, rfl, re, hre, by rw [List.length_append, List.length_take, List.length_drop]; omega⟩ (puts_setRow hx1)
            refine goes_value (u := .slice (some ⟨(ρ i).1, 0, none⟩) (len + m) (ρ i).2) [(n, some (.cells ei (ci ++ cj.take (m * re.size)))), (i, none)] ?_ rfl hst (show al n ∨ n = n from .inr rfl) (by simp [concV, conc])
            refine call_builtin h hE hs ho hb hv fun consts => ?_
            simp [Go.builtin, ht, concV, conc, hrun]
          · have hroom' : (ρ i).2 < len + m := by omega
            have hcapb := nextslicecap_le (need := len + m) (old := (ρ i).2) hroom'
            have hfit : Builtin.nextslicecap (len + m) (ρ i).2 * inf.bytes ≤ 281474976710656 := by
              have : Builtin.nextslicecap (len + m) (ρ i).2 * inf.bytes ≤ 400000 * 1000 := by rw [g3]; exact Nat.mul_le_mul (by omega) hs2
              omega
            have hol : (concs ρ (ci.take (len * re.size))).length = len * inf.size := by rw [length_concs, List.length_take, g2]; omega
            have hrun := run_append_grow (P := P) w t o.type ei inf z hu g1 g4 ⟨(ρ i).1, 0, none⟩ len (ρ i).2 (concs ρ (ci.take (len * re.size))) hol (cells_at h hE hs hoi)
              ⟨(ρ j).1, 0, none⟩ m (ρ j).2 (concs ρ (cj.take (m * re.size))) hnl (cells_at h hE hs hoj) hroom' (by omega) hfit
            rw [← hil, List.take_of_length_le (Nat.le_refl _)] at hrun
            have hzl : (Builtin.zeroCells z.cells (grownCap w (len + m) (ρ i).2 ei - (len + m))).toList.length = (grownCap w (len + m) (ρ i).2 ei - (len + m)) * re.size := by
              rw [Array.length_toList, size_zeroCells, g5 ρ, List.size_toArray, length_concs, hs3]
            have hcap : len + m ≤ grownCap w (len + m) (ρ i).2 ei := by simp only [grownCap, Question.cut]; omega
            have hk := step_kill h hoi
            have hst := step_new (w1 := w.drew) hk.rep (.cells ei (ci ++ cj.take (m * re.size))) hok (.cells (concs ρ (ci ++ cj.take (m * re.size)) ++ (Builtin.zeroCells z.cells (grownCap w (len + m) (ρ i).2 ei - (len + m))).toList).toArray ei (0, 0)) (grownCap w (len + m) (ρ i).2 ei)
              ⟨_, rfl, re, hre, by rw [hzl, List.length_append, List.length_take, Nat.min_eq_left (by omega), hil, ← Nat.add_mul, ← Nat.add_mul]; congr 1; omega⟩ ⟨rfl, rfl, rfl, rfl⟩
            refine goes_value (u := .slice (some ⟨w.heap.size, 0, none⟩) (len + m) (grownCap w (len + m) (ρ i).2 ei)) _ ?_ rfl (hk.trans' hst) (show al n ∨ n = n from .inr rfl) (by simp [concV, conc])
            refine call_builtin h hE hs ho hb hv fun consts => ?_
            have he : (concs ρ (ci ++ cj.take (m * re.size)) ++ (Builtin.zeroCells z.cells (grownCap w (len + m) (ρ i).2 ei - (len + m))).toList).toArray
                = (concs ρ ci).toArray ++ (concs ρ (cj.take (m * re.size))).toArray ++ Builtin.zeroCells z.cells (grownCap w (len + m) (ρ i).2 ei - (len + m)) := by
              apply Array.ext'; simp [concs_append]
            simp [Go.builtin, ht, concV, conc, hrun, he]
        · cases hev
      | _ => cases hev
    · cases hev
  | _ => cases hev

theorem getObj_run {i : Nat} {ob : AObj} {blk : Obj} (hx : w.heap[(ρ i).1]? = some blk) (hnc : ∀ c e f, blk ≠ .cells c e f) : (getObj (ρ i).1).run P w = .ok blk w := by
  cases blk with
  | cells c e f => exact absurd rfl (hnc c e f)
  | _ => simp only [getObj, Sem.run, hx]

theorem goes_builtin {c : Call} {b : Builtin} {vs : List AV} (ho : o.op = .call c) (hb : c.callee = .builtin b) (hv : vals s c.args.toList = some vs) (hev : evBuiltin E b c.argTypes.toList vs B d n = some (v, d', n')) :
    Goes P E B0 o a B d al n ρ w v d' n' := by
  obtain ⟨ev, kv⟩ := vals_conc hs hv
  unfold evBuiltin at hev
  split at hev
  · -- len
    split at hev
    · rename_i t ts x xs ht
      split at hev
      · rename_i r hr
        have hu := (hE.tys t r hr).und
        have ht0 : c.argTypes[0]? = some t := by rw [← Array.getElem?_toList, ht]; rfl
        split at hev
        case h_7 => cases hev
        case h_6 i hd =>
          rw [hd] at hu
          split at hev <;> (try (cases hev; done))
          all_goals
            rename_i hob
            simp only [Option.some.injEq, Prod.mk.injEq] at hev
            obtain ⟨rfl, rfl, rfl⟩ := hev
            refine goes_same h (call_builtin h hE hs ho hb hv fun consts => ?_) trivial
            obtain ⟨blk, hx, hblk⟩ := h.obj i _ hob
            simp only [BlkIs] at hblk
            have hrun := getObj_run (P := P) (w := w) (ρ := ρ) (i := i) h hE hs (ob := .sit [] 0) hx (by rw [hblk]; intro c e f; exact fun h => by cases h)
            rw [hblk] at hrun
            simp [Go.builtin, Builtin.len_, ht0, concV, conc, run_underlying hu, goInt, hrun]
        all_goals
          rename_i hd
          rw [hd] at hu
          simp only [Option.some.injEq, Prod.mk.injEq] at hev
          obtain ⟨rfl, rfl, rfl⟩ := hev
          refine goes_same h (call_builtin h hE hs ho hb hv fun consts => ?_) trivial
          simp only [Go.builtin, Builtin.len_, ht0, List.map_cons, concV, conc, Sem.run_bind, run_underlying hu, goInt, List.getElem?_toArray, List.getElem?_cons_zero, Sem.run_pure, Result.andThen_ok, bsize h hE hs]
          try rfl
      · cases hev
    · cases hev
  · -- max
    split at hev
    · rename_i k x r
      split at hev
      · rename_i y hy
        simp only [Option.some.injEq, Prod.mk.injEq] at hev
        obtain ⟨rfl, rfl, rfl⟩ := hev
        refine goes_same h (call_builtin h hE hs ho hb hv fun consts => ?_) trivial
        have key : ∀ (r : List AV) (x y : Int), maxInts k x r = some y → ((r.map (concV ρ)).foldlM Builtin.max2 (.int k x)).run P w = .ok (.int k y) w := by
          intro r
          induction r with
          | nil => intro x y hy; simp only [maxInts, Option.some.injEq] at hy; subst hy; simp
          | cons u r ih =>
            intro x y hy
            cases u with
            | c q => cases q with
              | int k' y' =>
                simp only [maxInts] at hy
                simp only [List.map_cons, List.foldlM_cons, concV, conc, Builtin.max2, pure_bind]
                exact ih _ _ hy
              | _ => simp [maxInts] at hy
            | _ => simp [maxInts] at hy
        have := key _ _ _ hy
        simp only [Go.builtin, Builtin.max_, List.map_cons, Sem.run_bind, concV, conc]
        rw [this]
        rfl
      · cases hev
    · cases hev
  · -- min
    split at hev
    · rename_i k x r
      split at hev
      · rename_i y hy
        simp only [Option.some.injEq, Prod.mk.injEq] at hev
        obtain ⟨rfl, rfl, rfl⟩ := hev
        refine goes_same h (call_builtin h hE hs ho hb hv fun consts => ?_) trivial
        have key : ∀ (r : List AV) (x y : Int), minInts k x r = some y → ((r.map (concV ρ)).foldlM Builtin.min2 (.int k x)).run P w = .ok (.int k y) w := by
          intro r
          induction r with
          | nil => intro x y hy; simp only [minInts, Option.some.injEq] at hy; subst hy; simp
          | cons u r ih =>
            intro x y hy
            cases u with
            | c q => cases q with
              | int k' y' =>
                simp only [minInts] at hy
                simp only [List.map_cons, List.foldlM_cons, concV, conc, Builtin.min2, pure_bind]
                exact ih _ _ hy
              | _ => simp [minInts] at hy
            | _ => simp [minInts] at hy
        have := key _ _ _ hy
        simp only [Go.builtin, Builtin.min_, List.map_cons, Sem.run_bind, concV, conc]
        rw [this]
        rfl
      · cases hev
    · cases hev
  · -- append
    split at hev
    · rename_i t u x y ht
      split at hev
      · cases hev
      rename_i htu
      have htu : t = u := by simpa using htu
      subst htu
      split at hev
      · rename_i rt hrt
        split at hev
        · rename_i e hd
          split at hev
          · rename_i re hre
            exact goes_append h hE hs ho hb (by apply Array.ext'; rw [ht]) hv hrt hd hre hev
          · cases hev
        · cases hev
      · cases hev
    · cases hev
  · cases hev

end
end Go.Proofs.YtdpielghjaehbaaGreat.Ev

/- The evaluator is sound: maps, walks, closures. -/
set_option linter.unusedSectionVars false
set_option linter.unusedSimpArgs false
set_option linter.unusedVariables false
namespace Go.Proofs.YtdpielghjaehbaaGreat.Ev
open Go.RowKit

section
variable {P : Program} {E : Env} {B0 : Nat} {B : List Seg} {d d' : Seg} {al : Nat → Prop} {n n' : Nat} {ρ : Rho} {w : World} {s : Slots} {a : Act} {o : Oper} {v : AV}
variable (h : Rep E B0 ⟨d :: B, al, n, ρ, w⟩) (hE : EnvOk P E) (hs : SlotsOk ρ al s a)

theorem isObj {w : World} {g : Nat} {blk : Obj} (hx : w.heap[g]? = some blk) (hnc : ∀ c e f, blk ≠ .cells c e f) : (getObj g).run P w = .ok blk w := by
  cases blk with
  | cells c e f => exact absurd rfl (hnc c e f)
  | _ => simp only [getObj, Sem.run, hx]

theorem setsObj {w : World} {g : Nat} {old blk : Obj} (hx : w.heap[g]? = some old) (hnc : ∀ c e f, old ≠ .cells c e f) : (setObj g blk).run P w = .ok () { w with heap := w.heap.setIfInBounds g blk } := by
  cases old with
  | cells c e f => exact absurd rfl (hnc c e f)
  | _ => simp only [setObj, Sem.run, hx]

theorem Rep.pm {S : St} (h : Rep E B0 S) {i clock : Nat} {ks : List (Int × Nat)} (ho : get S.H i = some (.pm ks clock)) : S.w.heap[(S.ρ i).1]? = some (.map (ks.map pmEntry).toArray clock) := by
  obtain ⟨blk, hx, hb⟩ := h.obj i _ ho
  rw [hx, hb]

theorem Rep.km {S : St} (h : Rep E B0 S) {i clock : Nat} {es : List (List UInt8 × Int × Nat × Nat)} (ho : get S.H i = some (.km es clock)) : S.w.heap[(S.ρ i).1]? = some (.map (es.map (kmEntry S.ρ)).toArray clock) := by
  obtain ⟨blk, hx, hb⟩ := h.obj i _ ho
  rw [hx, hb]

theorem Rep.mit {S : St} (h : Rep E B0 S) {i m since st : Nat} {was : List Nat} (ho : get S.H i = some (.mit m since was st)) : S.w.heap[(S.ρ i).1]? = some (.mapIter (some (S.ρ m).1) since was.toArray st) := by
  obtain ⟨blk, hx, hb⟩ := h.obj i _ ho
  rw [hx, hb]

theorem Rep.sit {S : St} (h : Rep E B0 S) {i pos : Nat} {l : List UInt8} (ho : get S.H i = some (.sit l pos)) : S.w.heap[(S.ρ i).1]? = some (.stringIter ⟨l.toArray⟩ pos) := by
  obtain ⟨blk, hx, hb⟩ := h.obj i _ ho
  rw [hx, hb]

theorem sameBytes_iff : ∀ (x y : List UInt8), sameBytes x y = true ↔ x = y
  | [], [] => by simp [sameBytes]
  | [], _ :: _ => by simp [sameBytes]
  | _ :: _, [] => by simp [sameBytes]
  | a :: x, b :: y => by
    simp only [sameBytes, Bool.and_eq_true, beq_iff_eq, sameBytes_iff x y, List.cons.injEq, UInt8.toNat_inj]

theorem sameBytes_spec (x y : List UInt8) : sameBytes x y = (x == y) := by
  rw [Bool.eq_iff_iff, sameBytes_iff, beq_iff_eq]

theorem bytes_list (x : List UInt8) : (⟨x.toArray⟩ : ByteArray).toList = x := by
  rw [ByteArray.toList_eq]

structure KeyT (P : Program) (t tf tg : Nat) (fs : Array Field) (f g : Field) : Prop where
  und : P.underlying t = some (.struct fs)
  list : fs.toList = [f, g]
  o1 : f.offset = 0
  o2 : g.offset = 1
  n1 : f.name ≠ "_"
  n2 : g.name ≠ "_"
  u1 : P.underlying f.type = some .string
  u2 : P.underlying g.type = some (.int .i64)
  held : P.stoodInHeld t = false

include h hE hs

theorem goes_makeSlice {t e : Nat} {r re : TyRow} {x y : Operand} {k : Int} (ho : o.op = .makeSlice t x y) (hr : assoc E.tys t = some r) (hx : val s x = some (.c (.int .i64 k))) (hy : val s y = some (.c (.int .i64 k)))
    (hd : r.desc = .slice e) (hre : assoc E.tys e = some re) (h0 : 0 ≤ k) (h1 : k ≤ 100000) (hz : re.size = 1) (hl : re.zero.length = 1) (hb : re.bytes ≤ 1000) :
    Goes P E B0 o a B d al n ρ w (.c (.sl n k.toNat)) ((n, some (.cells e (List.replicate k.toNat (re.zero.getD 0 .undef)))) :: d) (n + 1) := by
  obtain ⟨ex, _⟩ := val_conc hs hx
  obtain ⟨ey, _⟩ := val_conc hs hy
  obtain ⟨inf, z, g1, g2, g3, g4, g5⟩ := info_of h hE hs hre
  have hu := (hE.tys t r hr).und
  rw [hd] at hu
  obtain ⟨c, hc⟩ : ∃ c, re.zero = [c] := by
    match hq : re.zero, hl with
    | [c], _ => exact ⟨c, rfl⟩
  have hok : ∀ x ∈ List.replicate k.toNat (re.zero.getD 0 .undef), x.ok al := by
    intro x hx
    rw [List.eq_of_mem_replicate hx, hc]
    exact zero_ok h hE hs hre c (by rw [hc]; simp)
  have hk : ((inf.bytes : Int) * k ≤ 281474976710656) := by
    rw [g3]
    have : (re.bytes : Int) ≤ 1000 := by omega
    calc (re.bytes : Int) * k ≤ 1000 * k := Int.mul_le_mul_of_nonneg_right this h0
      _ ≤ _ := by omega
  have hrun := Go.run_make (P := P) w t e inf z hu g1 g4 .i64 .i64 k k h0 (Int.le_refl _) hk (by omega)
  have hcells : madeCells z.cells (k.toNat * inf.size) = (concs ρ (List.replicate k.toNat (re.zero.getD 0 .undef))).toArray := by
    rw [g2, hz, Nat.mul_one, g5 ρ, hc]
    apply Array.ext'
    simp only [madeCells, concs, List.map_replicate, List.map_cons, List.map_nil]
    apply List.ext_getElem
    · simp
    · intro i h1 h2
      simp [Nat.mod_one]
  rw [hcells] at hrun
  have hst := step_new (w1 := w) h (.cells e (List.replicate k.toNat (re.zero.getD 0 .undef))) hok _ k.toNat (blk_row hre (by rw [List.length_replicate, hz]; omega)) ⟨rfl, rfl, rfl, rfl⟩
  refine goes_value (u := .slice (some ⟨w.heap.size, 0, none⟩) k.toNat k.toNat) _ ?_ rfl hst (.inr rfl) (by simp [concV, conc])
  simp [execOp, ho, ex, ey, concV, conc, hrun]

theorem goes_makeMap {t : Nat} (ob : AObj) (ho : o.op = .makeMap t none) (hob : ob = .pm [] 0 ∨ ob = .km [] 0) : Goes P E B0 o a B d al n ρ w (.c (.mref n)) ((n, some ob) :: d) (n + 1) := by
  have hok : ob.ok al := by rcases hob with rfl | rfl <;> simp [AObj.ok]
  have hblk : BlkIs E ρ 0 ob (.map #[] 0) := by rcases hob with rfl | rfl <;> simp [BlkIs]
  have hst := step_new (w1 := w) h ob hok (.map #[] 0) 0 hblk ⟨rfl, rfl, rfl, rfl⟩
  refine goes_value (u := .map (some w.heap.size)) _ ?_ rfl hst (.inr rfl) (by simp [concV, conc])
  simp [execOp, ho, Instr.makeMap]

theorem goes_makeFunc {f i : Nat} {first captured : Array Operand} (ho : o.op = .makeFunc (.func f) first captured) (hf : first.toList = []) (hv : vals s captured.toList = some [.c (.ptr i 0)]) :
    Goes P E B0 o a B d al n ρ w (.c (.clo f i)) d n := by
  obtain ⟨e, k⟩ := vals_conc hs hv
  have hok := k _ (List.mem_singleton.2 rfl)
  refine goes_same h ?_ hok
  have hf' : first = #[] := Array.ext' hf
  have hc : captured.map a.eval = #[.pointer (some ⟨(ρ i).1, 0, none⟩)] := by
    apply Array.ext'
    simpa [concV, conc] using e
  simp [execOp, ho, Instr.makeFunc, hf', hc, concV, conc]

/-! ### Keys -/

theorem keyT_of {t : Nat} (hk : isKeyT E t = true) : ∃ fs f g, KeyT P t t t fs f g := by
  have hh := hE.held t hk
  unfold isKeyT at hk
  split at hk
  · rename_i r hr
    split at hk
    · rename_i fs hd
      split at hk
      · rename_i f g hl
        simp only [Bool.and_eq_true, beq_iff_eq, bne_iff_ne] at hk
        obtain ⟨⟨⟨⟨h1, h2⟩, h3⟩, h4⟩, h5⟩ := hk
        split at h5
        · rename_i hf hg
          have hu := (hE.tys t r hr).und
          rw [hd] at hu
          exact ⟨fs, f, g, hu, hl, h1, h2, h3, h4, (hE.tys _ _ hf).und, (hE.tys _ _ hg).und, hh⟩
        · cases h5
      · cases hk
    · cases hk
  · cases hk

theorem run_part {t : Nat} {de : TypeDesc} (hu : P.underlying t = some de) (ha : isAggD de = false) {xs : Array Value} {k : Nat} {v : Value} (hv : xs[k]? = some v) (w : World) : (part t xs k).run P w = .ok v w := by
  have : (isAgg t).run P w = .ok false w := by
    simp only [isAgg, Sem.run_bind, run_underlying hu, Result.andThen_ok]
    cases de <;> first | rfl | simp [isAggD] at ha
  simp [part, this, hv]

theorem run_equal_key {t : Nat} (hk : isKeyT E t = true) (x y : List UInt8) (p q : Int) (w : World) :
    (Op.equal t (.agg #[.string ⟨x.toArray⟩, .int .i64 p]) (.agg #[.string ⟨y.toArray⟩, .int .i64 q])).run P w = .ok (sameBytes x y && p == q) w := by
  obtain ⟨fs, f, g, K⟩ := keyT_of h hE hs hk
  have hfo : P.fieldsOf t = fs := by simp [Program.fieldsOf, K.und]
  have h1 := run_equalIn_struct (P := P) w 9999 t #[.string ⟨x.toArray⟩, .int .i64 p] #[.string ⟨y.toArray⟩, .int .i64 q] (by rw [hfo]; exact K.und) K.held
  have p1 : ∀ (u v : Value) w, (part f.type #[u, v] f.offset).run P w = .ok u w := fun u v w => run_part h hE hs K.u1 rfl (by rw [K.o1]; rfl) w
  have p2 : ∀ (u v : Value) w, (part g.type #[u, v] g.offset).run P w = .ok v w := fun u v w => run_part h hE hs K.u2 rfl (by rw [K.o2]; rfl) w
  unfold Op.equal Op.maxDepth
  rw [h1, hfo, K.list]
  have e1 := run_equalIn_string (P := P) w 9998 f.type ⟨x.toArray⟩ ⟨y.toArray⟩ K.u1
  have e2 := run_equalIn_int (P := P) w 9998 g.type .i64 .i64 p q K.u2
  rw [bytes_list, bytes_list] at e1
  simp only [Op.eqFields, if_pos K.n1, if_pos K.n2, Sem.run_bind, p1, p2, Result.andThen_ok, e1, e2]
  rw [sameBytes_spec]
  cases x == y with
  | false => simp
  | true => cases hpq : p == q <;> rw [hpq] at e2 <;> simp [p2, e2]

theorem run_checkKey_key {t : Nat} (hk : isKeyT E t = true) (b : Bool) (x : List UInt8) (p : Int) (w : World) : (Instr.checkKey b 10000 t (.agg #[.string ⟨x.toArray⟩, .int .i64 p])).run P w = .ok () w := by
  obtain ⟨fs, f, g, K⟩ := keyT_of h hE hs hk
  have p1 : ∀ (u v : Value) w, (part f.type #[u, v] f.offset).run P w = .ok u w := fun u v w => run_part h hE hs K.u1 rfl (by rw [K.o1]; rfl) w
  have p2 : ∀ (u v : Value) w, (part g.type #[u, v] g.offset).run P w = .ok v w := fun u v w => run_part h hE hs K.u2 rfl (by rw [K.o2]; rfl) w
  have c1 := MapKept.run_checkKey (P := P) (w := w) (kt := f.type) (d := .string) (k := .string ⟨x.toArray⟩) K.u1 trivial b 9998
  have c2 := MapKept.run_checkKey (P := P) (w := w) (kt := g.type) (d := .int .i64) (k := .int .i64 p) K.u2 rfl b 9998
  rw [Instr.checkKey]
  simp only [Sem.run_bind, run_underlying K.und, Result.andThen_ok]
  rw [← Array.forIn_toList, K.list]
  simp [K.n1, K.n2, p1, p2, c1, c2]

theorem run_findKey_key {t : Nat} (hk : isKeyT E t = true) (nm : List UInt8) (q : Int) (w : World) : ∀ (es : List (List UInt8 × Int × Nat × Nat)) (j : Nat),
    ∃ r, (Instr.findAsking t (.agg #[.string ⟨nm.toArray⟩, .int .i64 q]) (es.map (kmEntry ρ)) j).run P w = .ok r w ∧
      (match kfind nm q es with
        | some i => ∃ k, r = some (k, .map (some (ρ i).1))
        | none => r = none)
  | [], j => ⟨none, rfl, rfl⟩
  | (m, p, i, st) :: es, j => by
    have he := run_equal_key h hE hs hk nm m q p w
    simp only [List.map_cons, Instr.findAsking, Sem.run_bind, kmEntry, he, Result.andThen_ok, kfind]
    have hsym : (sameBytes m nm && p == q) = (sameBytes nm m && q == p) := by
      rw [sameBytes_spec, sameBytes_spec, Bool.beq_comm (a := m), BEq.comm (a := p)]
    rw [hsym]
    cases hc : (sameBytes nm m && q == p) with
    | true => exact ⟨_, rfl, j, rfl⟩
    | false => exact run_findKey_key hk nm q w es (j + 1)

theorem findNow_struct {fs : Array Field} {k : Value} {f : Value} : ∀ (l : List MapEntry) (i : Nat), l ≠ [] → Instr.findNow (.struct fs) k l i = none
  | [], _, h => absurd rfl h
  | e :: es, i, _ => by simp [Instr.findNow, Instr.sameNow]

theorem run_find_key {t : Nat} (hk : isKeyT E t = true) (nm : List UInt8) (q : Int) (w : World) (es : List (List UInt8 × Int × Nat × Nat)) :
    ∃ r, (Instr.findKey t (.agg #[.string ⟨nm.toArray⟩, .int .i64 q]) (es.map (kmEntry ρ))).run P w = .ok r w ∧
      (match kfind nm q es with
        | some i => ∃ k, r = some (k, .map (some (ρ i).1))
        | none => r = none) := by
  obtain ⟨fs, f, g, K⟩ := keyT_of h hE hs hk
  obtain ⟨r, hr, hm⟩ := run_findKey_key h hE hs hk nm q w es 0
  refine ⟨r, ?_, hm⟩
  cases es with
  | nil =>
    simp only [List.map_nil, Instr.findKey, Sem.run_bind, run_underlying K.und, Result.andThen_ok, Instr.findNow]
    simpa [Instr.findAsking] using hr
  | cons e es =>
    simp only [Instr.findKey, Sem.run_bind, run_underlying K.und, Result.andThen_ok]
    rw [findNow_struct h hE hs (f := .nilFunc) _ _ (by simp)]
    exact hr

theorem kt_map {t kt et : Nat} {r : TyRow} (hr : assoc E.tys t = some r) (hd : r.desc = .map kt et) : P.underlying t = some (.map kt et) := by
  have hu := (hE.tys t r hr).und
  rw [hd] at hu
  exact hu

theorem goes_lookup {t kt et i clock q : Nat} {r : TyRow} {x y : Operand} {nm : List UInt8} {q : Int} {es : List (List UInt8 × Int × Nat × Nat)} {ok : Bool} (ho : o.op = .lookup t x y ok) (hr : assoc E.tys t = some r) (hd : r.desc = .map kt et)
    (hx : val s x = some (.c (.mref i))) (hy : val s y = some (.agg [.str nm, .int .i64 q])) (hob : get (d :: B) i = some (.km es clock)) (hk : isKeyT E kt = true)
    (hv : (match kfind nm q es with
        | some j => some (if ok then AV.tup [.mref j, .bool true] else .c (.mref j), d, n)
        | none => match assoc E.tys et with
          | some { desc := .map _ _, zero := [.mnil], zagg := false, .. } => some (if ok then .tup [.mnil, .bool false] else .c .mnil, d, n)
          | _ => none) = some (v, d', n')) : Goes P E B0 o a B d al n ρ w v d' n' := by
  obtain ⟨ex, _⟩ := val_conc hs hx
  obtain ⟨ey, _⟩ := val_conc hs hy
  have hb := h.km hob
  have hu := kt_map h hE hs hr hd
  have hget := MapKept.run_getObj_map (P := P) hb
  have hck := run_checkKey_key h hE hs hk es.isEmpty nm q w
  obtain ⟨r1, hf, hm⟩ := run_find_key h hE hs hk nm q w es
  have ex' : a.eval x = .map (some (ρ i).1) := ex
  have ey' : a.eval y = .agg #[.string ⟨nm.toArray⟩, .int .i64 q] := ey
  split at hv
  · rename_i j hj
    rw [hj] at hm
    obtain ⟨k, rfl⟩ := hm
    simp only [Option.some.injEq, Prod.mk.injEq] at hv
    obtain ⟨rfl, rfl, rfl⟩ := hv
    have hokj : al j := by
      have hkm := (h.al i _ hob).2
      have : ∀ (es : List (List UInt8 × Int × Nat × Nat)), kfind nm q es = some j → ∃ e ∈ es, e.2.2.1 = j := by
        intro es
        induction es with
        | nil => intro hj; cases hj
        | cons e es ih =>
          obtain ⟨m, p, i', st⟩ := e
          intro hj
          simp only [kfind] at hj
          split at hj
          · simp only [Option.some.injEq] at hj
            exact ⟨_, .head _, hj⟩
          · obtain ⟨e, he, r⟩ := ih hj
            exact ⟨e, .tail _ he, r⟩
      obtain ⟨e, he, rfl⟩ := this es hj
      exact hkm e he
    refine goes_same h ?_ (by cases ok <;> simp [AV.ok, AC.ok, hokj])
    cases ok <;> simp [execOp, ho, ex', ey', Instr.lookup, run_underlying hu, hget, hck, hf, concV, concs, conc]
  · rename_i hj
    rw [hj] at hm
    subst hm
    split at hv
    · rename_i hre
      rename_i sz b k2 e2
      simp only [Option.some.injEq, Prod.mk.injEq] at hv
      obtain ⟨rfl, rfl, rfl⟩ := hv
      obtain ⟨inf, z, g1, g2, g3, g4, g5⟩ := info_of h hE hs hre
      have hzv : z = .map none := by
        have hc := g5 ρ
        simp only [concs, List.map_cons, List.map_nil, conc] at hc
        have hza := (hE.tys _ _ hre).agg _ _ g1 g4
        cases z with
        | agg cs => cases hza
        | map b => simpa [Value.cells] using hc
        | _ => simp [Value.cells] at hc
      refine goes_same h ?_ (by cases ok <;> simp [AV.ok, AC.ok])
      cases ok <;> simp [execOp, ho, ex', ey', Instr.lookup, run_underlying hu, hget, hck, hf, zeroValue, typeInfo, g1, g4, hzv, concV, concs, conc]
    · cases hv

/-- What a map's update with a number says: the number is there already. -/
theorem pm_kept {ks : List (Int × Nat)} {q : Int} (hq : pfind q ks = true) : ∃ j e, ks[j]? = some e ∧ e.1 = q ∧ Instr.findNow (.int .i64) (.int .i64 q) (ks.map pmEntry) 0 = some (some (j, .agg #[])) := by
  have key : ∀ (ks : List (Int × Nat)) (i : Nat), pfind q ks = true → ∃ j e, ks[j]? = some e ∧ e.1 = q ∧ Instr.findNow (.int .i64) (.int .i64 q) (ks.map pmEntry) i = some (some (i + j, .agg #[])) := by
    intro ks
    induction ks with
    | nil => intro i hq; cases hq
    | cons p ks ih =>
      intro i hq
      simp only [pfind] at hq
      by_cases e : p.1 = q
      · refine ⟨0, p, rfl, e, ?_⟩
        simp [Instr.findNow, Instr.sameNow, pmEntry, e]
      · have hq' : pfind q ks = true := by simpa [e] using hq
        obtain ⟨j, e', h1, h2, h3⟩ := ih (i + 1) hq'
        refine ⟨j + 1, e', by simpa using h1, h2, ?_⟩
        have e2 : (q == p.1) = false := by simpa using fun x => e (Eq.symm x)
        simp only [List.map_cons, Instr.findNow, Instr.sameNow, pmEntry, if_true, e2]
        rw [h3]
        simp only [Option.some.injEq, Prod.mk.injEq, and_true]; omega
  obtain ⟨j, e, h1, h2, h3⟩ := key ks 0 hq
  exact ⟨j, e, h1, h2, by simpa using h3⟩

theorem pm_new {ks : List (Int × Nat)} {q : Int} (hq : pfind q ks = false) : Instr.findNow (.int .i64) (.int .i64 q) (ks.map pmEntry) 0 = some none := by
  have key : ∀ (ks : List (Int × Nat)) (i : Nat), pfind q ks = false → Instr.findNow (.int .i64) (.int .i64 q) (ks.map pmEntry) i = some none := by
    intro ks
    induction ks with
    | nil => intro i _; rfl
    | cons p ks ih =>
      intro i hq
      simp only [pfind, Bool.or_eq_false_iff, beq_eq_false_iff_ne] at hq
      have e2 : (q == p.1) = false := by simpa using fun x => hq.1 (Eq.symm x)
      have h3 := ih (i + 1) hq.2
      simp only [List.map_cons, Instr.findNow, Instr.sameNow, pmEntry, if_true, e2, h3]
  exact key ks 0 hq

theorem modify_same {es : Array MapEntry} {j : Nat} {f : MapEntry → MapEntry} (hf : ∀ e, es[j]? = some e → f e = e) : es.modify j f = es := by
  apply Array.ext_getElem?
  intro i
  rw [Array.getElem?_modify]
  split
  · rename_i e
    subst e
    cases he : es[j]? with
    | none => rfl
    | some e => simp [hf e he]
  · rfl

theorem goes_update_pm {t kt et i clock : Nat} {r rk : TyRow} {x y z : Operand} {q : Int} {ks : List (Int × Nat)} (ho : o.op = .mapUpdate t x y z ∨ o.op = .insert t x y z) (hr : assoc E.tys t = some r) (hd : r.desc = .map kt et)
    (hx : val s x = some (.c (.mref i))) (hy : val s y = some (.c (.int .i64 q))) (hz : val s z = some (.agg [])) (hob : get (d :: B) i = some (.pm ks clock)) (hrk : assoc E.tys kt = some rk) (hk : rk.desc = .int .i64)
    (hv : (if pfind q ks then some (AV.c .undef, (i, some (AObj.pm ks clock)) :: d, n) else some (.c .undef, (i, some (.pm (ks ++ [(q, clock)]) (clock + 1))) :: d, n)) = some (v, d', n')) : Goes P E B0 o a B d al n ρ w v d' n' := by
  obtain ⟨ex, _⟩ := val_conc hs hx
  obtain ⟨ey, _⟩ := val_conc hs hy
  obtain ⟨ez, _⟩ := val_conc hs hz
  have ex' : a.eval x = .map (some (ρ i).1) := ex
  have ey' : a.eval y = .int .i64 q := ey
  have ez' : a.eval z = .agg #[] := ez
  have hb := h.pm hob
  simp only at hb
  have hu := kt_map h hE hs hr hd
  have huk := (hE.tys kt rk hrk).und
  rw [hk] at huk
  have hck := MapKept.run_checkKey (P := P) (w := w) (kt := kt) (d := .int .i64) (k := .int .i64 q) huk rfl false 9999
  have hget := MapKept.run_getObj_map (P := P) hb
  have hex : execOp a.eval o = (do Instr.mapUpdate t (a.eval x) (a.eval y) (a.eval z); pure .skip) := by rcases ho with ho | ho <;> simp only [execOp, ho]
  split at hv
  · rename_i hq
    simp only [Option.some.injEq, Prod.mk.injEq] at hv
    obtain ⟨rfl, rfl, rfl⟩ := hv
    obtain ⟨j, e, h1, h2, h3⟩ := pm_kept h hE hs hq
    have hf := MapKept.run_findKey (P := P) (w := w) huk h3
    have hst := step_set h hob (.pm ks clock) trivial _ rfl (puts_set hb)
    refine goes_skip _ ?_ rfl hst
    have hm : ((ks.map pmEntry).toArray.modify j fun e => { e with key := .int .i64 q, val := .agg #[] }) = (ks.map pmEntry).toArray := by
      refine modify_same h hE hs fun e' he' => ?_
      simp only [List.getElem?_toArray, List.getElem?_map, h1, Option.map_some, Option.some.injEq] at he'
      subst he'
      simp [pmEntry, h2]
    have hkey : ((ks.map pmEntry).toArray[j]?.map (·.key)).getD (.int .i64 q) = .int .i64 q := by
      simp [h1, pmEntry, h2]
    have hks := MapKept.run_keyThatStays (P := P) (w := w) (d := .int .i64) (k := .int .i64 q) rfl
    have hso := MapKept.run_setObj_map (P := P) (.map (ks.map pmEntry).toArray clock) hb
    rw [hex, ex', ey', ez']
    simp only [Instr.mapUpdate, Sem.run_bind, run_underlying hu, hget, Result.andThen_ok, hck, hf, hkey, hks, hm, hso, Sem.run_pure]
  · rename_i hq
    simp only [Option.some.injEq, Prod.mk.injEq] at hv
    obtain ⟨rfl, rfl, rfl⟩ := hv
    have hf := MapKept.run_findKey (P := P) (w := w) huk (pm_new h hE hs (by simpa using hq))
    have hst := step_set h hob (.pm (ks ++ [(q, clock)]) (clock + 1)) trivial _ rfl (puts_set hb)
    refine goes_skip _ ?_ rfl hst
    have hso := MapKept.run_setObj_map (P := P) (.map ((ks.map pmEntry).toArray.push { key := .int .i64 q, val := .agg #[], born := clock }) (clock + 1)) hb
    have hp : (ks.map pmEntry).toArray.push { key := .int .i64 q, val := .agg #[], born := clock } = ((ks ++ [(q, clock)]).map pmEntry).toArray := by
      simp [pmEntry]
    rw [hp] at hso
    rw [hex, ex', ey', ez']
    simp only [Instr.mapUpdate, Sem.run_bind, run_underlying hu, hget, Result.andThen_ok, hck, hf, hp, hso, Sem.run_pure]

theorem goes_update_km {t kt et i j clock : Nat} {r : TyRow} {x y z : Operand} {nm : List UInt8} {q : Int} {es : List (List UInt8 × Int × Nat × Nat)} (ho : o.op = .mapUpdate t x y z ∨ o.op = .insert t x y z) (hr : assoc E.tys t = some r) (hd : r.desc = .map kt et)
    (hx : val s x = some (.c (.mref i))) (hy : val s y = some (.agg [.str nm, .int .i64 q])) (hz : val s z = some (.c (.mref j))) (hob : get (d :: B) i = some (.km es clock)) (hk : isKeyT E kt = true) (hnot : kfind nm q es = none) :
    Goes P E B0 o a B d al n ρ w (.c .undef) ((i, some (.km (es ++ [(nm, q, j, clock)]) (clock + 1))) :: d) n := by
  obtain ⟨ex, _⟩ := val_conc hs hx
  obtain ⟨ey, _⟩ := val_conc hs hy
  obtain ⟨ez, kz⟩ := val_conc hs hz
  have ex' : a.eval x = .map (some (ρ i).1) := ex
  have ey' : a.eval y = .agg #[.string ⟨nm.toArray⟩, .int .i64 q] := ey
  have ez' : a.eval z = .map (some (ρ j).1) := ez
  have hb := h.km hob
  simp only at hb
  have hu := kt_map h hE hs hr hd
  have hck := run_checkKey_key h hE hs hk false nm q w
  have hget := MapKept.run_getObj_map (P := P) hb
  obtain ⟨r1, hf, hm⟩ := run_find_key h hE hs hk nm q w es
  rw [hnot] at hm
  subst hm
  have hex : execOp a.eval o = (do Instr.mapUpdate t (a.eval x) (a.eval y) (a.eval z); pure .skip) := by rcases ho with ho | ho <;> simp only [execOp, ho]
  have hok : (AObj.km (es ++ [(nm, q, j, clock)]) (clock + 1)).ok al := by
    intro e he
    rcases List.mem_append.1 he with he | he
    · exact (h.al i _ hob).2 e he
    · simp only [List.mem_singleton] at he
      subst he; exact kz
  have hst := step_set h hob (.km (es ++ [(nm, q, j, clock)]) (clock + 1)) hok _ rfl (puts_set hb)
  refine goes_skip _ ?_ rfl hst
  have hp : (es.map (kmEntry ρ)).toArray.push { key := .agg #[.string ⟨nm.toArray⟩, .int .i64 q], val := .map (some (ρ j).1), born := clock } = ((es ++ [(nm, q, j, clock)]).map (kmEntry ρ)).toArray := by
    simp [kmEntry]
  have hso := MapKept.run_setObj_map (P := P) (.map ((es.map (kmEntry ρ)).toArray.push { key := .agg #[.string ⟨nm.toArray⟩, .int .i64 q], val := .map (some (ρ j).1), born := clock }) (clock + 1)) hb
  rw [hp] at hso
  rw [hex, ex', ey', ez']
  simp only [Instr.mapUpdate, Sem.run_bind, run_underlying hu, hget, Result.andThen_ok, hck, hf, hp, hso, Sem.run_pure]

theorem goes_range_str {t : Nat} {r : TyRow} {x : Operand} {l : List UInt8} (ho : o.op = .range t x) (hr : assoc E.tys t = some r) (hd : r.desc = .string) (hx : val s x = some (.c (.str l))) :
    Goes P E B0 o a B d al n ρ w (.c (.ptr n 0)) ((n, some (.sit l 0)) :: d) (n + 1) := by
  obtain ⟨ex, _⟩ := val_conc hs hx
  have hu := (hE.tys t r hr).und
  rw [hd] at hu
  have hst := step_new (w1 := w) h (.sit l 0) trivial (.stringIter ⟨l.toArray⟩ 0) 0 rfl ⟨rfl, rfl, rfl, rfl⟩
  refine goes_value (u := .pointer (some ⟨w.heap.size, 0, none⟩)) _ ?_ rfl hst (.inr rfl) (by simp [concV, conc])
  simp [execOp, ho, ex, concV, conc, Instr.range, run_underlying hu]

theorem goes_range_map {t kt et m clock : Nat} {r : TyRow} {x : Operand} {ob : AObj} (ho : o.op = .range t x) (hr : assoc E.tys t = some r) (hd : r.desc = .map kt et) (hx : val s x = some (.c (.mref m)))
    (hob : get (d :: B) m = some ob) (hc : (∃ ks, ob = .pm ks clock) ∨ (∃ es, ob = .km es clock)) :
    Goes P E B0 o a B d al n ρ w (.c (.ptr n 0)) ((n, some (.mit m clock [] clock)) :: d) (n + 1) := by
  obtain ⟨ex, kx⟩ := val_conc hs hx
  have hu := kt_map h hE hs hr hd
  have hst := step_new (w1 := w) h (.mit m clock [] clock) kx (.mapIter (some (ρ m).1) clock #[] clock) 0 rfl ⟨rfl, rfl, rfl, rfl⟩
  refine goes_value (u := .pointer (some ⟨w.heap.size, 0, none⟩)) _ ?_ rfl hst (.inr rfl) (by simp [concV, conc])
  have hb : ∃ es, (getObj (ρ m).1).run P w = .ok (.map es clock) w := by
    rcases hc with ⟨ks, rfl⟩ | ⟨es, rfl⟩
    · exact ⟨_, MapKept.run_getObj_map (h.pm hob)⟩
    · exact ⟨_, MapKept.run_getObj_map (h.km hob)⟩
  obtain ⟨es, hb⟩ := hb
  simp [execOp, ho, ex, concV, conc, Instr.range, run_underlying hu, hb]

theorem goes_next_str {x : Operand} {i pos : Nat} {l : List UInt8} (ho : o.op = .next x true) (hx : val s x = some (.c (.ptr i 0))) (hob : get (d :: B) i = some (.sit l pos))
    (hv : (if pos < l.length then
          some (AV.tup [.bool true, .int .i64 pos, .int .i32 (Utf8.decode ⟨l.toArray⟩ pos).1], (i, some (AObj.sit l (pos + (Utf8.decode ⟨l.toArray⟩ pos).2))) :: d, n)
        else some (.tup [.bool false], d, n)) = some (v, d', n')) : Goes P E B0 o a B d al n ρ w v d' n' := by
  obtain ⟨ex, kx⟩ := val_conc hs hx
  have hb := h.sit hob
  simp only at hb
  have hget := isObj (P := P) hb (fun _ _ _ e => by cases e)
  have hsz : (⟨l.toArray⟩ : ByteArray).size = l.length := List.size_toArray
  split at hv
  · rename_i hlt
    simp only [Option.some.injEq, Prod.mk.injEq] at hv
    obtain ⟨rfl, rfl, rfl⟩ := hv
    have hst := step_set h hob (.sit l (pos + (Utf8.decode ⟨l.toArray⟩ pos).2)) trivial _ rfl (puts_set hb)
    have hso := setsObj (P := P) (blk := .stringIter ⟨l.toArray⟩ (pos + (Utf8.decode ⟨l.toArray⟩ pos).2)) hb (fun _ _ _ e => by cases e)
    refine goes_value (u := .tuple #[.bool true, .int .i64 pos, .int .i32 (Utf8.decode ⟨l.toArray⟩ pos).1]) _ ?_ rfl hst (by simp [AV.ok, AC.ok]) (by simp [concV, concs, conc])
    simp [execOp, ho, ex, concV, conc, Instr.next, hget, hsz, hlt, hso, goInt]
  · rename_i hlt
    simp only [Option.some.injEq, Prod.mk.injEq] at hv
    obtain ⟨rfl, rfl, rfl⟩ := hv
    refine goes_same h ?_ (by simp [AV.ok, AC.ok])
    simp [execOp, ho, ex, concV, conc, concs, Instr.next, hget, hsz, hlt]

theorem goes_entry {x : Operand} {i m since stepped clock st : Nat} {was : List Nat} {ks : List (Int × Nat)} {p : Int × Nat} (ho : o.op = .entry x) (hx : val s x = some (.c (.ptr i 0))) (hob : get (d :: B) i = some (.mit m since was stepped))
    (hst : was.getLast? = some st) (hom : get (d :: B) m = some (.pm ks clock)) (hc : clock = stepped) (hp : ks.find? (fun p => p.2 == st) = some p) :
    Goes P E B0 o a B d al n ρ w (.tup [.int .i64 p.1, .raw (.agg ⟨[]⟩)]) d n := by
  obtain ⟨ex, kx⟩ := val_conc hs hx
  have hb := h.mit hob
  have hbm := h.pm hom
  simp only at hb hbm
  have hget := isObj (P := P) hb (fun _ _ _ e => by cases e)
  have hgetm := MapKept.run_getObj_map (P := P) hbm
  refine goes_same h ?_ (by simp [AV.ok, AC.ok])
  have hl : was.toArray.back? = some st := by simpa using hst
  have hf : (ks.map pmEntry).find? (fun e => e.born == st) = some (pmEntry p) := by
    rw [List.find?_map]
    have : ((fun e => e.born == st) ∘ pmEntry) = fun p : Int × Nat => p.2 == st := rfl
    rw [this, hp]; rfl
  simp [execOp, ho, ex, concV, conc, concs, Instr.entry, hget, hl, hgetm, hc, hf, pmEntry]

end
end Go.Proofs.YtdpielghjaehbaaGreat.Ev
