/- The evaluator is sound: heaps. -/
import Derived.Test.YtdpielghjaehbaaGreatEvA
import Derived.Laws.AppendOwn
import Derived.Laws.CopyRow
import Derived.Laws.Strings
import Derived.Laws.BytesString
import Derived.Laws.Small
import Derived.Laws.Cover3
namespace Go.Proofs.YtdpielghjaehbaaGreat.Ev
open Go.RowKit

abbrev Rho := Nat → Nat × Nat

def conc (ρ : Rho) : AC → Value
  | .undef => Go.undef
  | .bool b => .bool b
  | .int k n => .int k n
  | .str s => .string ⟨s.toArray⟩
  | .ptr i off => .pointer (some ⟨(ρ i).1, off, none⟩)
  | .sl0 => .slice none 0 0
  | .sl i len => .slice (some ⟨(ρ i).1, 0, none⟩) len (ρ i).2
  | .mref i => .map (some (ρ i).1)
  | .mnil => .map none
  | .clo f i => .func (.func f) #[] #[.pointer (some ⟨(ρ i).1, 0, none⟩)]
  | .raw v => v

def concs (ρ : Rho) (l : List AC) : List Value := l.map (conc ρ)

def concV (ρ : Rho) : AV → Value
  | .c x => conc ρ x
  | .agg l => .agg (concs ρ l).toArray
  | .tup l => .tuple (concs ρ l).toArray

def AC.ok (al : Nat → Prop) : AC → Prop
  | .ptr i _ => al i
  | .sl i _ => al i
  | .mref i => al i
  | .clo _ i => al i
  | _ => True

def AV.ok (al : Nat → Prop) : AV → Prop
  | .c x => x.ok al
  | .agg l => ∀ x ∈ l, x.ok al
  | .tup l => ∀ x ∈ l, x.ok al

def AC.plain : AC → Bool
  | .ptr .. | .sl .. | .mref _ | .clo .. => false
  | _ => true

def AObj.ok (al : Nat → Prop) : AObj → Prop
  | .cells _ l => ∀ c ∈ l, c.ok al
  | .pm _ _ => True
  | .km es _ => ∀ e ∈ es, al e.2.2.1
  | .mit m _ _ _ => al m
  | .sit _ _ => True

def pmEntry (p : Int × Nat) : MapEntry := { key := .int .i64 p.1, val := .agg #[], born := p.2 }
def kmEntry (ρ : Rho) (p : List UInt8 × Int × Nat × Nat) : MapEntry := { key := .agg #[.string ⟨p.1.toArray⟩, .int .i64 p.2.1], val := .map (some (ρ p.2.2.1).1), born := p.2.2.2 }

/-- A block holds an object. 'cap': of a row, for how many elements there's room. -/
def BlkIs (E : Env) (ρ : Rho) (cap : Nat) : AObj → Obj → Prop
  | .cells e l, blk => ∃ ex : List Value, blk = .cells (concs ρ l ++ ex).toArray e (0, 0) ∧ ∃ r, assoc E.tys e = some r ∧ l.length + ex.length = cap * r.size
  | .pm ks clock, blk => blk = .map (ks.map pmEntry).toArray clock
  | .km es clock, blk => blk = .map (es.map (kmEntry ρ)).toArray clock
  | .mit m since was stepped, blk => blk = .mapIter (some (ρ m).1) since was.toArray stepped
  | .sit l pos, blk => blk = .stringIter ⟨l.toArray⟩ pos

def aggVal : Value → Bool
  | .agg _ => true
  | _ => false

structure TyOk (P : Program) (t : Nat) (r : TyRow) : Prop where
  und : P.underlying t = some r.desc
  info : ∃ i z, P.info? t = some i ∧ i.size = r.size ∧ i.bytes = r.bytes ∧ i.zero = some z ∧ z.cells = (concs (fun _ => (0, 0)) r.zero).toArray
  plain : r.zero.all AC.plain = true
  agg : ∀ i z, P.info? t = some i → i.zero = some z → aggVal z = r.zagg

structure EnvOk (P : Program) (E : Env) : Prop where
  mixed : P.follows .mixedOrders = true
  fns : ∀ f fn, assoc E.fns f = some fn → P.funcs[f]? = some fn
  names : fnsOk E = true
  tys : ∀ t r, assoc E.tys t = some r → TyOk P t r
  held : ∀ t, isKeyT E t = true → P.stoodInHeld t = false

structure St where
  H : List Seg
  al : Nat → Prop
  n : Nat
  ρ : Rho
  w : World

structure Rep (E : Env) (B0 : Nat) (S : St) : Prop where
  obj : ∀ i o, get S.H i = some o → ∃ blk, S.w.heap[(S.ρ i).1]? = some blk ∧ BlkIs E S.ρ (S.ρ i).2 o blk
  lo : ∀ i o, get S.H i = some o → B0 ≤ (S.ρ i).1
  inj : ∀ i j o p, get S.H i = some o → get S.H j = some p → (S.ρ i).1 = (S.ρ j).1 → i = j
  al : ∀ i o, get S.H i = some o → S.al i ∧ o.ok S.al
  lt : ∀ i, S.al i → i < S.n
  base : B0 ≤ S.w.heap.size
  mem : ∀ b o v, E.mem b o = some v → b < B0 ∧ S.w.cell? ⟨b, o, none⟩ = some v

/-- S' is S, and what T names is other. -/
structure Step (E : Env) (B0 : Nat) (T : Nat → Prop) (S S' : St) : Prop where
  rep : Rep E B0 S'
  al_eq : ∀ i, S'.al i ↔ (S.al i ∨ (S.n ≤ i ∧ i < S'.n))
  n_le : S.n ≤ S'.n
  agree : ∀ i, (i < S.n ∨ S'.n ≤ i) → S'.ρ i = S.ρ i
  kept : ∀ i, ¬ T i → get S'.H i = get S.H i
  live : ∀ i, T i → i < S.n → ∃ o, get S.H i = some o
  ids : ∀ i, T i → i < S'.n
  size : S.w.heap.size ≤ S'.w.heap.size
  frame : ∀ b, b < S.w.heap.size → (∀ i, T i → i < S.n → (S.ρ i).1 ≠ b) → S'.w.heap[b]? = S.w.heap[b]?
  newb : ∀ i o, S.n ≤ i → get S'.H i = some o → S.w.heap.size ≤ (S'.ρ i).1 ∨ ∃ j, T j ∧ j < S.n ∧ (S'.ρ i).1 = (S.ρ j).1
  misc : S'.w.os = S.w.os ∧ S'.w.tape = S.w.tape ∧ S'.w.output = S.w.output

def In (δ : Seg) (i : Nat) : Prop := ∃ o, look δ i = some o

theorem look_append (a b : Seg) (i : Nat) : look (a ++ b) i = match look a i with | some o => some o | none => look b i := by
  induction a with
  | nil => rfl
  | cons p r ih =>
    obtain ⟨j, o⟩ := p
    simp only [List.cons_append, look]
    by_cases h : j == i <;> simp [h, ih]

theorem in_append {a b : Seg} {i : Nat} : In (a ++ b) i ↔ In a i ∨ In b i := by
  unfold In
  rw [look_append]
  cases h : look a i with
  | some o => simp
  | none => simp

theorem get_append (δ d : Seg) (B : List Seg) (i : Nat) : get ((δ ++ d) :: B) i = match look δ i with | some o => o | none => get (d :: B) i := by
  simp only [get, look_append]
  cases look δ i <;> rfl

theorem get_kept {δ d : Seg} {B : List Seg} {i : Nat} (h : ¬ In δ i) : get ((δ ++ d) :: B) i = get (d :: B) i := by
  rw [get_append]
  cases hl : look δ i with
  | some o => exact absurd ⟨o, hl⟩ h
  | none => rfl

theorem not_in_nil (i : Nat) : ¬ In [] i := fun ⟨_, h⟩ => by simp [look] at h

theorem Step.refl {E : Env} {B0 : Nat} {S : St} (h : Rep E B0 S) : Step E B0 (In []) S S where
  rep := h
  al_eq i := ⟨.inl, fun x => x.resolve_right (by omega)⟩
  n_le := Nat.le_refl _
  agree _ _ := rfl
  kept _ _ := rfl
  live i hi := absurd hi (not_in_nil i)
  ids i hi := absurd hi (not_in_nil i)
  size := Nat.le_refl _
  frame _ _ _ := rfl
  newb i o hi ho := by have := h.lt i (h.al i o ho).1; omega
  misc := ⟨rfl, rfl, rfl⟩

theorem Step.trans {E : Env} {B0 : Nat} {T1 T2 : Nat → Prop} {S S1 S2 : St} (a : Step E B0 T1 S S1) (b : Step E B0 T2 S1 S2) : Step E B0 (fun i => T2 i ∨ T1 i) S S2 where
  rep := b.rep
  al_eq i := by
    have := a.n_le; have := b.n_le
    rw [b.al_eq, a.al_eq]
    constructor
    · rintro ((h | h) | h)
      · exact .inl h
      · exact .inr ⟨h.1, by omega⟩
      · exact .inr ⟨by omega, h.2⟩
    · rintro (h | h)
      · exact .inl (.inl h)
      · by_cases hi : i < S1.n
        · exact .inl (.inr ⟨h.1, hi⟩)
        · exact .inr ⟨by omega, h.2⟩
  n_le := Nat.le_trans a.n_le b.n_le
  agree i hi := by
    have := a.n_le; have := b.n_le
    rw [b.agree i (by omega), a.agree i (by omega)]
  kept i hi := by rw [b.kept i (fun h => hi (.inl h)), a.kept i (fun h => hi (.inr h))]
  live i hi hn := by
    by_cases h1 : T1 i
    · exact a.live i h1 hn
    · rcases hi with h | h
      · have := b.live i h (by have := a.n_le; omega)
        rwa [a.kept i h1] at this
      · exact absurd h h1
  ids i hi := by
    rcases hi with h | h
    · exact b.ids i h
    · exact Nat.lt_of_lt_of_le (a.ids i h) b.n_le
  size := Nat.le_trans a.size b.size
  frame k hk hT := by
    rw [b.frame k (Nat.lt_of_lt_of_le hk a.size) ?_, a.frame k hk (fun i hi hn => hT i (.inr hi) hn)]
    intro i hi hn
    by_cases hin : i < S.n
    · rw [a.agree i (.inl hin)]; exact hT i (.inl hi) hin
    · obtain ⟨o, ho⟩ := b.live i hi hn
      rcases a.newb i o (by omega) ho with h | ⟨j, hj, hjn, he⟩
      · omega
      · rw [he]; exact hT j (.inr hj) hjn
  newb i o hi ho := by
    by_cases h1 : i < S1.n
    · have hl : ∃ o', get S1.H i = some o' := by
        by_cases h2 : T2 i
        · exact b.live i h2 h1
        · exact ⟨o, by rw [← b.kept i h2]; exact ho⟩
      obtain ⟨o', ho'⟩ := hl
      rw [b.agree i (.inl h1)]
      rcases a.newb i o' hi ho' with h | ⟨j, hj, hjn, he⟩
      · exact .inl h
      · exact .inr ⟨j, .inr hj, hjn, he⟩
    · rcases b.newb i o (by omega) ho with h | ⟨j, hj, hjn, he⟩
      · exact .inl (Nat.le_trans a.size h)
      · rw [he]
        by_cases hjs : j < S.n
        · rw [a.agree j (.inl hjs)]
          exact .inr ⟨j, .inl hj, hjs, rfl⟩
        · obtain ⟨o', ho'⟩ := b.live j hj hjn
          rcases a.newb j o' (by omega) ho' with h | ⟨k, hk, hkn, he'⟩
          · exact .inl h
          · exact .inr ⟨k, .inr hk, hkn, he'⟩
  misc := ⟨b.misc.1.trans a.misc.1, b.misc.2.1.trans a.misc.2.1, b.misc.2.2.trans a.misc.2.2⟩

theorem Step.congr {E : Env} {B0 : Nat} {T T' : Nat → Prop} {S S' : St} (h : Step E B0 T S S') (e : ∀ i, T i ↔ T' i) : Step E B0 T' S S' where
  rep := h.rep
  al_eq := h.al_eq
  n_le := h.n_le
  agree := h.agree
  kept i hi := h.kept i (fun x => hi ((e i).1 x))
  live i hi := h.live i ((e i).2 hi)
  ids i hi := h.ids i ((e i).2 hi)
  size := h.size
  frame b hb hT := h.frame b hb (fun i hi => hT i ((e i).1 hi))
  newb i o hi ho := (h.newb i o hi ho).imp id fun ⟨j, hj, r⟩ => ⟨j, (e j).1 hj, r⟩
  misc := h.misc

theorem Step.trans' {E : Env} {B0 : Nat} {δ1 δ2 : Seg} {S S1 S2 : St} (a : Step E B0 (In δ1) S S1) (b : Step E B0 (In δ2) S1 S2) : Step E B0 (In (δ2 ++ δ1)) S S2 :=
  (a.trans b).congr fun _ => in_append.symm

/-! ### Values -/

theorem conc_agree {al : Nat → Prop} {ρ ρ' : Rho} (h : ∀ i, al i → ρ' i = ρ i) : ∀ {x : AC}, x.ok al → conc ρ' x = conc ρ x
  | .undef, _ | .bool _, _ | .int .., _ | .str _, _ | .sl0, _ | .mnil, _ | .raw _, _ => rfl
  | .ptr i off, hx => by simp only [conc, h i hx]
  | .sl i len, hx => by simp only [conc, h i hx]
  | .mref i, hx => by simp only [conc, h i hx]
  | .clo f i, hx => by simp only [conc, h i hx]

theorem concs_agree {al : Nat → Prop} {ρ ρ' : Rho} (h : ∀ i, al i → ρ' i = ρ i) {l : List AC} (hl : ∀ x ∈ l, x.ok al) : concs ρ' l = concs ρ l :=
  List.map_congr_left fun x hx => conc_agree h (hl x hx)

theorem concV_agree {al : Nat → Prop} {ρ ρ' : Rho} (h : ∀ i, al i → ρ' i = ρ i) {v : AV} (hv : v.ok al) : concV ρ' v = concV ρ v := by
  cases v with
  | c x => exact conc_agree h hv
  | agg l => simp only [concV, concs_agree h hv]
  | tup l => simp only [concV, concs_agree h hv]

theorem AC.ok_mono {al al' : Nat → Prop} (h : ∀ i, al i → al' i) : ∀ {x : AC}, x.ok al → x.ok al'
  | .undef, _ | .bool _, _ | .int .., _ | .str _, _ | .sl0, _ | .mnil, _ | .raw _, _ => trivial
  | .ptr i _, hx => h i hx
  | .sl i _, hx => h i hx
  | .mref i, hx => h i hx
  | .clo _ i, hx => h i hx

theorem AV.ok_mono {al al' : Nat → Prop} (h : ∀ i, al i → al' i) {v : AV} (hv : v.ok al) : v.ok al' := by
  cases v with
  | c x => exact AC.ok_mono h hv
  | agg l => exact fun x hx => AC.ok_mono h (hv x hx)
  | tup l => exact fun x hx => AC.ok_mono h (hv x hx)

theorem conc_plain {ρ ρ' : Rho} : ∀ {x : AC}, x.plain = true → conc ρ x = conc ρ' x
  | .undef, _ | .bool _, _ | .int .., _ | .str _, _ | .sl0, _ | .mnil, _ | .raw _, _ => rfl
  | .ptr .., h | .sl .., h | .mref _, h | .clo .., h => by simp [AC.plain] at h

theorem concs_plain {ρ ρ' : Rho} {l : List AC} (h : l.all AC.plain = true) : concs ρ l = concs ρ' l :=
  List.map_congr_left fun x hx => conc_plain (List.all_eq_true.1 h x hx)

theorem ok_plain {al : Nat → Prop} : ∀ {x : AC}, x.plain = true → x.ok al
  | .undef, _ | .bool _, _ | .int .., _ | .str _, _ | .sl0, _ | .mnil, _ | .raw _, _ => trivial
  | .ptr .., h | .sl .., h | .mref _, h | .clo .., h => by simp [AC.plain] at h

theorem oneCell_conc {ρ : Rho} : ∀ {x : AC}, x.isCell = true → (conc ρ x).oneCell' = true
  | .undef, h => by simp [AC.isCell] at h
  | .bool _, _ | .int .., _ | .str _, _ | .sl0, _ | .ptr .., _ | .sl .., _ | .mref _, _ | .mnil, _ | .clo .., _ => rfl
  | .raw v, h => h

theorem cells_oneCell {v : Value} (h : v.oneCell' = true) : v.cells = #[v] := by
  cases v <;> first | rfl | simp [Value.oneCell'] at h

theorem conc_cells {ρ : Rho} : ∀ {x : AC}, x.isCell = true → (conc ρ x).cells = #[conc ρ x]
  | .undef, h => by simp [AC.isCell] at h
  | .bool _, _ | .int .., _ | .str _, _ | .sl0, _ | .ptr .., _ | .sl .., _ | .mref _, _ | .mnil, _ | .clo .., _ => rfl
  | .raw v, h => cells_oneCell h

theorem concV_cells {ρ : Rho} {v : AV} (h : cellsGood (cellsOf v) = true) (hl : (cellsOf v).length ≠ 0 ∨ isAggV v = true) : (concV ρ v).cells = (concs ρ (cellsOf v)).toArray := by
  cases v with
  | c x =>
    simp only [cellsGood, cellsOf, List.all_cons, List.all_nil, Bool.and_true] at h
    simp only [concV, conc_cells h, cellsOf, concs, List.map_cons, List.map_nil]
  | agg l => rfl
  | tup l => simp [cellsOf, isAggV] at hl

theorem length_concs (ρ : Rho) (l : List AC) : (concs ρ l).length = l.length := by simp [concs]

theorem oneCell_concs {ρ : Rho} {l : List AC} (h : cellsGood l = true) : ∀ v ∈ concs ρ l, v.oneCell' = true := by
  intro v hv
  obtain ⟨x, hx, rfl⟩ := List.mem_map.1 hv
  exact oneCell_conc (List.all_eq_true.1 h x hx)

theorem concs_append (ρ : Rho) (a b : List AC) : concs ρ (a ++ b) = concs ρ a ++ concs ρ b := by simp [concs]
theorem concs_take (ρ : Rho) (a : List AC) (k : Nat) : concs ρ (a.take k) = (concs ρ a).take k := by simp [concs]
theorem concs_drop (ρ : Rho) (a : List AC) (k : Nat) : concs ρ (a.drop k) = (concs ρ a).drop k := by simp [concs]

theorem concs_splice (ρ : Rho) (l : List AC) (off : Nat) (p : List AC) : concs ρ (splice l off p) = (concs ρ l).take off ++ concs ρ p ++ (concs ρ l).drop (off + (concs ρ p).length) := by
  simp [splice, concs_append, concs_take, concs_drop, length_concs]

/-! ### Objects -/

theorem AObj.ok_mono {al al' : Nat → Prop} (h : ∀ i, al i → al' i) {o : AObj} (ho : o.ok al) : o.ok al' := by
  cases o with
  | cells e l => exact fun c hc => AC.ok_mono h (ho c hc)
  | pm ks c => trivial
  | km es c => exact fun e he => h _ (ho e he)
  | mit m a b c => exact h _ ho
  | sit a b => trivial

theorem BlkIs_agree {E : Env} {al : Nat → Prop} {ρ ρ' : Rho} (h : ∀ i, al i → ρ' i = ρ i) {cap : Nat} {o : AObj} (ho : o.ok al) {blk : Obj} (hb : BlkIs E ρ cap o blk) : BlkIs E ρ' cap o blk := by
  cases o with
  | cells e l =>
    simp only [BlkIs] at hb ⊢
    rw [concs_agree h ho]; exact hb
  | pm ks c => exact hb
  | km es c =>
    simp only [BlkIs] at hb ⊢
    rw [hb]
    congr 2
    refine List.map_congr_left fun e he => ?_
    simp only [kmEntry, h _ (ho e he)]
  | mit m a b c =>
    simp only [BlkIs] at hb ⊢
    rw [hb, h _ ho]
  | sit a b => exact hb

theorem conc_lift (ρ : Rho) (v : Value) : conc ρ (lift v) = v := by
  unfold lift
  split <;> simp [conc]

theorem ok_lift (al : Nat → Prop) (v : Value) : (lift v).ok al := by
  unfold lift
  split <;> trivial

/-! ### Slots -/

structure SlotsOk (ρ : Rho) (al : Nat → Prop) (s : Slots) (a : Act) : Prop where
  size : a.tmps.size = s.nt
  at_ : ∀ t, a.tmps.getD t Go.undef = concV ρ (s.get t)
  ok : ∀ t, (s.get t).ok al

theorem SlotsOk.step {ρ ρ' : Rho} {al al' : Nat → Prop} {s : Slots} {a : Act} (h : SlotsOk ρ al s a) (hρ : ∀ i, al i → ρ' i = ρ i) (hal : ∀ i, al i → al' i) : SlotsOk ρ' al' s a :=
  ⟨h.size, fun t => by rw [h.at_ t, concV_agree hρ (h.ok t)], fun t => AV.ok_mono hal (h.ok t)⟩

theorem sfind_cons (d : Nat) (v : AV) (l : List (Nat × AV)) (t : Nat) : sfind ((d, v) :: l) t = if d = t then v else sfind l t := by
  simp only [sfind, beq_iff_eq]

theorem SlotsOk.put {ρ : Rho} {al : Nat → Prop} {s : Slots} {a : Act} (h : SlotsOk ρ al s a) (dst : Option Tmp) {v : AV} (hv : v.ok al) : SlotsOk ρ al (s.put dst v) (a.put dst (concV ρ v)) := by
  cases dst with
  | none => exact h
  | some d =>
    by_cases hd : d < s.nt
    · have e : s.put (some d) v = { s with l := (d, v) :: s.l } := by simp only [Slots.put]; rw [if_pos hd]
      rw [e]
      refine ⟨by simpa [Act.put] using h.size, fun t => ?_, fun t => ?_⟩
      · have hs := h.size
        simp only [Act.put, Slots.get, sfind_cons]
        by_cases hdt : d = t
        · subst hdt
          simp [hs, hd]
        · rw [if_neg hdt]
          have := h.at_ t
          simp only [Slots.get] at this
          rw [← this]
          simp [Array.getElem?_setIfInBounds_ne hdt]
      · simp only [Slots.get, sfind_cons]
        by_cases hdt : d = t
        · rw [if_pos hdt]; exact hv
        · rw [if_neg hdt]; exact h.ok t
    · have e : s.put (some d) v = s := by simp only [Slots.put]; rw [if_neg hd]
      rw [e]
      have : a.put (some d) (concV ρ v) = a := by
        have hs := h.size
        simp only [Act.put]
        have hn : ¬ d < a.tmps.size := by rw [hs]; exact hd
        rw [Array.setIfInBounds, dif_neg hn]
      rw [this]; exact h

theorem put_defers (a : Act) (dst : Option Tmp) (v : Value) : (a.put dst v).defers = a.defers := by cases dst <;> rfl

theorem absV_conc {ρ : Rho} {al : Nat → Prop} {u : Value} {v : AV} (h : absV u = some v) : concV ρ v = u ∧ v.ok al := by
  unfold absV at h
  split at h <;> first
    | (simp only [Option.some.injEq] at h; subst h; exact ⟨by simp [concV, conc], trivial⟩)
    | (split at h
       · rename_i hsz
         simp only [Option.some.injEq] at h; subst h
         refine ⟨?_, fun x hx => by cases hx⟩
         simp only [concV, concs, List.map_nil]
         congr 1
         exact (Array.eq_empty_of_size_eq_zero hsz).symm
       · cases h)
    | simp at h

theorem val_conc {ρ : Rho} {al : Nat → Prop} {s : Slots} {a : Act} (h : SlotsOk ρ al s a) {x : Operand} {v : AV} (hv : val s x = some v) : a.eval x = concV ρ v ∧ v.ok al := by
  cases x with
  | tmp t =>
    simp only [val, Option.some.injEq] at hv
    subst hv
    exact ⟨h.at_ t, h.ok t⟩
  | const u =>
    obtain ⟨e, k⟩ := absV_conc (ρ := ρ) (al := al) hv
    exact ⟨e.symm, k⟩
  | global g => simp [val] at hv
  | func f => simp [val] at hv

theorem vals_conc {ρ : Rho} {al : Nat → Prop} {s : Slots} {a : Act} (h : SlotsOk ρ al s a) : ∀ {l : List Operand} {vs : List AV}, vals s l = some vs → l.map a.eval = vs.map (concV ρ) ∧ ∀ v ∈ vs, v.ok al
  | [], vs, hv => by simp only [vals, Option.some.injEq] at hv; subst hv; exact ⟨rfl, fun _ h => by cases h⟩
  | x :: r, vs, hv => by
    simp only [vals] at hv
    split at hv
    · rename_i v vs' h1 h2
      simp only [Option.some.injEq] at hv; subst hv
      obtain ⟨e1, k1⟩ := val_conc h h1
      obtain ⟨e2, k2⟩ := vals_conc h h2
      refine ⟨by simp [e1, e2], fun u hu => ?_⟩
      cases hu with
      | head => exact k1
      | tail _ hu => exact k2 u hu
    · cases hv

end Go.Proofs.YtdpielghjaehbaaGreat.Ev

/- The evaluator is sound: what one operation does to a heap. -/
namespace Go.Proofs.YtdpielghjaehbaaGreat.Ev
open Go.RowKit

theorem Rep.below {E : Env} {B0 : Nat} {S : St} (h : Rep E B0 S) {i : Nat} {o : AObj} (ho : get S.H i = some o) : (S.ρ i).1 < S.w.heap.size := by
  obtain ⟨blk, hx, _⟩ := h.obj i o ho
  rcases Nat.lt_or_ge (S.ρ i).1 S.w.heap.size with hl | hl
  · exact hl
  · rw [Array.getElem?_eq_none hl] at hx; cases hx

/-- A row's block, written out. -/
theorem Rep.row {E : Env} {B0 : Nat} {S : St} (h : Rep E B0 S) {i e : Nat} {l : List AC} (ho : get S.H i = some (.cells e l)) : ∃ ex : List Value, S.w.heap[(S.ρ i).1]? = some (.cells (concs S.ρ l ++ ex).toArray e (0, 0)) ∧ ∃ r, assoc E.tys e = some r ∧ l.length + ex.length = (S.ρ i).2 * r.size := by
  obtain ⟨blk, hx, ex, rfl, r⟩ := h.obj i _ ho
  exact ⟨ex, hx, r⟩

theorem Rep.cell {E : Env} {B0 : Nat} {S : St} (h : Rep E B0 S) {i e : Nat} {l : List AC} (ho : get S.H i = some (.cells e l)) {k : Nat} {x : AC} (hk : l[k]? = some x) : S.w.cell? ⟨(S.ρ i).1, k, none⟩ = some (conc S.ρ x) := by
  obtain ⟨ex, hx, _⟩ := h.row ho
  have hlt : k < l.length := by
    rcases Nat.lt_or_ge k l.length with hl | hl
    · exact hl
    · rw [List.getElem?_eq_none hl] at hk; cases hk
  have e : (concs S.ρ l ++ ex)[k]? = some (conc S.ρ x) := by
    rw [List.getElem?_append_left (by rw [length_concs]; exact hlt)]
    simp [concs, hk]
  simp [World.cell?, hx, e]

theorem heap_setRow_ne (w : World) (g : Nat) (cs : Array Value) (b : Nat) (hb : b ≠ g) : (w.setRow g cs).heap[b]? = w.heap[b]? := by
  simp only [World.setRow, Array.getElem?_modify]
  rw [if_neg (by omega)]

theorem size_setRow (w : World) (g : Nat) (cs : Array Value) : (w.setRow g cs).heap.size = w.heap.size := by simp [World.setRow]

/-- A world in which one block is another. -/
structure Puts (w w' : World) (g : Nat) (blk : Obj) : Prop where
  here : w'.heap[g]? = some blk
  others : ∀ b, b ≠ g → w'.heap[b]? = w.heap[b]?
  size : w'.heap.size = w.heap.size
  misc : w'.os = w.os ∧ w'.tape = w.tape ∧ w'.output = w.output

theorem puts_setRow {w : World} {g : Nat} {cur cs : Array Value} {t : TypeId} (hg : w.heap[g]? = some (.cells cur t (0, 0))) : Puts w (w.setRow g cs) g (.cells cs t (0, 0)) :=
  ⟨setRow_heap w g cur cs t _ hg, fun b hb => heap_setRow_ne w g cs b hb, size_setRow w g cs, rfl, rfl, rfl⟩

theorem puts_set {w : World} {g : Nat} {old blk : Obj} (hg : w.heap[g]? = some old) : Puts w { w with heap := w.heap.setIfInBounds g blk } g blk := by
  have hlt : g < w.heap.size := (Array.getElem?_eq_some_iff.1 hg).1
  refine ⟨by simp [hlt], fun b hb => ?_, by simp, rfl, rfl, rfl⟩
  simp only []
  rw [Array.getElem?_setIfInBounds_ne (fun e => hb e.symm)]

theorem cell_of_heap {w w' : World} {b o : Nat} (h : w'.heap[b]? = w.heap[b]?) : w'.cell? ⟨b, o, none⟩ = w.cell? ⟨b, o, none⟩ := by
  simp only [World.cell?, h]

/-- A new object in a new block. -/
theorem step_new {E : Env} {B0 : Nat} {d : Seg} {B : List Seg} {al : Nat → Prop} {n : Nat} {ρ : Rho} {w w1 : World} (h : Rep E B0 ⟨d :: B, al, n, ρ, w⟩)
    (o : AObj) (hl : o.ok al) (blk : Obj) (cap : Nat) (hblk : BlkIs E ρ cap o blk)
    (hw : w1.heap = w.heap ∧ w1.os = w.os ∧ w1.tape = w.tape ∧ w1.output = w.output) :
    Step E B0 (In [(n, some o)]) ⟨d :: B, al, n, ρ, w⟩
      ⟨([(n, some o)] ++ d) :: B, fun i => al i ∨ i = n, n + 1, fun i => if i = n then (w.heap.size, cap) else ρ i, w1.alloc blk⟩ := by
  obtain ⟨hh, h1, h2, h3⟩ := hw
  have hin : ∀ i, In [(n, some o)] i ↔ i = n := by
    intro i
    unfold In
    simp only [look, beq_iff_eq]
    constructor
    · rintro ⟨o, ho⟩
      split at ho
      · rename_i hi; exact hi.symm
      · cases ho
    · rintro rfl; exact ⟨_, if_pos rfl⟩
  have hget : ∀ i, get (([(n, some o)] ++ d) :: B) i = if i = n then some o else get (d :: B) i := by
    intro i
    rw [get_append]
    simp only [look, beq_iff_eq]
    by_cases hi : i = n
    · subst hi; simp
    · rw [if_neg (fun x => hi x.symm), if_neg hi]
  have hsz : (w1.alloc blk).heap.size = w.heap.size + 1 := by
    show (w1.heap.push blk).size = _
    rw [Array.size_push, hh]
  have hold : ∀ b, b < w.heap.size → (w1.alloc blk).heap[b]? = w.heap[b]? := fun b hb => by
    rw [Below.heap_alloc _ _ _ (by rw [hh]; exact hb), hh]
  have hnewblk : (w1.alloc blk).heap[w.heap.size]? = some blk := by
    rw [← hh]
    show (w1.heap.push _)[w1.heap.size]? = _
    rw [Array.getElem?_push_size]
  have hag : ∀ i, al i → (fun i => if i = n then (w.heap.size, cap) else ρ i) i = ρ i := fun i hi => by
    have := h.lt i hi
    simp only at this
    simp only [if_neg (show i ≠ n by omega)]
  have hal' : ∀ i, al i → (fun i => al i ∨ i = n) i := fun i hi => .inl hi
  refine { rep := ?_, al_eq := ?_, n_le := Nat.le_succ n, agree := ?_, kept := ?_, live := ?_, ids := ?_, size := ?_, frame := ?_, newb := ?_, misc := ⟨h1, h2, h3⟩ }
  · refine { obj := ?_, lo := ?_, inj := ?_, al := ?_, lt := ?_, base := ?_, mem := ?_ }
    · intro i o' ho
      simp only [hget] at ho
      by_cases hi : i = n
      · rw [if_pos hi] at ho
        simp only [Option.some.injEq] at ho
        subst ho; subst hi
        refine ⟨blk, ?_, ?_⟩
        · simp only [if_true]; exact hnewblk
        · simp only [if_true]; exact BlkIs_agree hag hl hblk
      · rw [if_neg hi] at ho
        obtain ⟨blk', hx, hb'⟩ := h.obj i o' ho
        refine ⟨blk', ?_, ?_⟩
        · simp only [if_neg hi]
          rw [hold _ (h.below ho)]
          exact hx
        · simp only [if_neg hi]; exact BlkIs_agree hag (h.al i o' ho).2 hb'
    · intro i o' ho
      simp only [hget] at ho
      by_cases hi : i = n
      · simp only [if_pos hi]; exact h.base
      · rw [if_neg hi] at ho
        simp only [if_neg hi]; exact h.lo i o' ho
    · intro i j o' p ho hp he
      simp only [hget] at ho hp
      by_cases hi : i = n <;> by_cases hj : j = n
      · omega
      · rw [if_neg hj] at hp
        simp only [if_pos hi, if_neg hj] at he
        have := h.below hp
        simp only at this; omega
      · rw [if_neg hi] at ho
        simp only [if_pos hj, if_neg hi] at he
        have := h.below ho
        simp only at this; omega
      · rw [if_neg hi] at ho; rw [if_neg hj] at hp
        simp only [if_neg hi, if_neg hj] at he
        exact h.inj i j o' p ho hp he
    · intro i o' ho
      simp only [hget] at ho
      by_cases hi : i = n
      · rw [if_pos hi] at ho
        simp only [Option.some.injEq] at ho
        subst ho
        exact ⟨.inr hi, AObj.ok_mono hal' hl⟩
      · rw [if_neg hi] at ho
        exact ⟨.inl (h.al i o' ho).1, AObj.ok_mono hal' (h.al i o' ho).2⟩
    · rintro i (hi | hi)
      · exact Nat.lt_succ_of_lt (h.lt i hi)
      · simp only; omega
    · have := h.base
      simp only at this
      simp only [hsz]; omega
    · intro b o' v hv
      obtain ⟨m1, m2⟩ := h.mem b o' v hv
      refine ⟨m1, ?_⟩
      have := h.base
      simp only at this m2 ⊢
      rw [cell_of_heap (hold b (by omega))]; exact m2
  · intro i
    simp only
    constructor
    · rintro (hi | hi)
      · exact .inl hi
      · exact .inr (by omega)
    · rintro (hi | hi)
      · exact .inl hi
      · exact .inr (by omega)
  · intro i hi
    simp only at hi ⊢
    rw [if_neg (by omega)]
  · intro i hi
    simp only [hget]
    rw [if_neg (fun x => hi ((hin i).2 x))]
  · intro i hi hn
    have := (hin i).1 hi
    simp only at hn; omega
  · intro i hi
    have := (hin i).1 hi
    simp only; omega
  · simp only [hsz]; omega
  · intro b hb _
    exact hold b hb
  · intro i o' hi ho
    simp only [hget] at ho
    by_cases hin' : i = n
    · left; simp only [if_pos hin']; exact Nat.le_refl _
    · rw [if_neg hin'] at ho
      have := h.lt i (h.al i o' ho).1
      simp only at this hi; omega

/-- An object turns. -/
theorem step_set {E : Env} {B0 : Nat} {d : Seg} {B : List Seg} {al : Nat → Prop} {n : Nat} {ρ : Rho} {w w' : World} (h : Rep E B0 ⟨d :: B, al, n, ρ, w⟩)
    {i : Nat} {ob : AObj} (hob : get (d :: B) i = some ob) (o : AObj) (hl : o.ok al) (blk : Obj) (hblk : BlkIs E ρ (ρ i).2 o blk) (hp : Puts w w' (ρ i).1 blk) :
    Step E B0 (In [(i, some o)]) ⟨d :: B, al, n, ρ, w⟩ ⟨([(i, some o)] ++ d) :: B, al, n, ρ, w'⟩ := by
  have hin : ∀ j, In [(i, some o)] j ↔ j = i := by
    intro j
    unfold In
    simp only [look, beq_iff_eq]
    constructor
    · rintro ⟨o, ho⟩
      split at ho
      · rename_i hi; exact hi.symm
      · cases ho
    · rintro rfl; exact ⟨_, if_pos rfl⟩
  have hget : ∀ j, get (([(i, some o)] ++ d) :: B) j = if j = i then some o else get (d :: B) j := by
    intro j
    rw [get_append]
    simp only [look, beq_iff_eq]
    by_cases hi : j = i
    · subst hi; simp
    · rw [if_neg (fun x => hi x.symm), if_neg hi]
  have hi := h.al i ob hob
  have hlt := h.lt i hi.1
  simp only at hlt
  have hlo := h.lo i ob hob
  simp only at hlo
  refine { rep := ?_, al_eq := ?_, n_le := Nat.le_refl n, agree := fun _ _ => rfl, kept := ?_, live := ?_, ids := ?_, size := ?_, frame := ?_, newb := ?_, misc := hp.misc }
  · refine { obj := ?_, lo := ?_, inj := ?_, al := ?_, lt := h.lt, base := ?_, mem := ?_ }
    · intro j o' ho
      simp only [hget] at ho
      by_cases hj : j = i
      · rw [if_pos hj] at ho
        simp only [Option.some.injEq] at ho
        subst ho; subst hj
        exact ⟨blk, hp.here, hblk⟩
      · rw [if_neg hj] at ho
        obtain ⟨blk', hx', r⟩ := h.obj j o' ho
        refine ⟨blk', ?_, r⟩
        simp only
        rw [hp.others _ (fun e => hj (h.inj j i o' ob ho hob e))]
        exact hx'
    · intro j o' ho
      simp only [hget] at ho
      by_cases hj : j = i
      · subst hj; exact h.lo j ob hob
      · rw [if_neg hj] at ho; exact h.lo j o' ho
    · intro j k o' p ho hp' he
      simp only [hget] at ho hp'
      have key : ∀ j o', (if j = i then some o else get (d :: B) j) = some o' → ∃ o'', get (d :: B) j = some o'' := fun j o' ho => by
        by_cases hj : j = i
        · exact ⟨ob, by rw [hj]; exact hob⟩
        · rw [if_neg hj] at ho; exact ⟨o', ho⟩
      obtain ⟨o1, ho1⟩ := key j o' ho
      obtain ⟨p1, hp1⟩ := key k p hp'
      exact h.inj j k o1 p1 ho1 hp1 he
    · intro j o' ho
      simp only [hget] at ho
      by_cases hj : j = i
      · rw [if_pos hj] at ho
        simp only [Option.some.injEq] at ho
        subst ho
        exact ⟨by rw [hj]; exact hi.1, hl⟩
      · rw [if_neg hj] at ho; exact h.al j o' ho
    · have := h.base; simp only at this ⊢; rw [hp.size]; exact this
    · intro b o' v hv
      obtain ⟨m1, m2⟩ := h.mem b o' v hv
      refine ⟨m1, ?_⟩
      simp only at m2 ⊢
      rw [cell_of_heap (hp.others b (by omega))]; exact m2
  · intro j
    simp only
    exact ⟨.inl, fun x => x.resolve_right (by omega)⟩
  · intro j hj
    simp only [hget]
    rw [if_neg (fun x => hj ((hin j).2 x))]
  · intro j hj _
    exact ⟨ob, by rw [(hin j).1 hj]; exact hob⟩
  · intro j hj
    rw [(hin j).1 hj]; exact hlt
  · simp only [hp.size]; exact Nat.le_refl _
  · intro b _ hb
    exact hp.others _ (fun e => hb i ((hin i).2 rfl) hlt e.symm)
  · intro j o' hj ho
    simp only [hget] at ho
    by_cases hji : j = i
    · simp only at hj; omega
    · rw [if_neg hji] at ho
      have := h.lt j (h.al j o' ho).1
      simp only at this hj; omega

/-- An object is given up. -/
theorem step_kill {E : Env} {B0 : Nat} {d : Seg} {B : List Seg} {al : Nat → Prop} {n : Nat} {ρ : Rho} {w : World} (h : Rep E B0 ⟨d :: B, al, n, ρ, w⟩)
    {i : Nat} {ob : AObj} (hob : get (d :: B) i = some ob) :
    Step E B0 (In [(i, none)]) ⟨d :: B, al, n, ρ, w⟩ ⟨([(i, none)] ++ d) :: B, al, n, ρ, w⟩ := by
  have hin : ∀ j, In [(i, (none : Option AObj))] j ↔ j = i := by
    intro j
    unfold In
    simp only [look, beq_iff_eq]
    constructor
    · rintro ⟨o, ho⟩
      split at ho
      · rename_i hi; exact hi.symm
      · cases ho
    · rintro rfl; exact ⟨_, if_pos rfl⟩
  have hget : ∀ j o, get (([(i, (none : Option AObj))] ++ d) :: B) j = some o → j ≠ i ∧ get (d :: B) j = some o := by
    intro j o
    rw [get_append]
    simp only [look, beq_iff_eq]
    by_cases hi : j = i
    · subst hi; simp
    · rw [if_neg (fun x => hi x.symm)]; exact fun h => ⟨hi, h⟩
  have hlt := h.lt i (h.al i ob hob).1
  simp only at hlt
  refine { rep := ?_, al_eq := ?_, n_le := Nat.le_refl n, agree := fun _ _ => rfl, kept := ?_, live := ?_, ids := ?_, size := Nat.le_refl _, frame := fun _ _ _ => rfl, newb := ?_, misc := ⟨rfl, rfl, rfl⟩ }
  · exact { obj := fun j o ho => h.obj j o (hget j o ho).2, lo := fun j o ho => h.lo j o (hget j o ho).2, inj := fun j k o p ho hp => h.inj j k o p (hget j o ho).2 (hget k p hp).2,
            al := fun j o ho => h.al j o (hget j o ho).2, lt := h.lt, base := h.base, mem := h.mem }
  · intro j
    simp only
    exact ⟨.inl, fun x => x.resolve_right (by omega)⟩
  · intro j hj
    exact get_kept hj
  · intro j hj _
    exact ⟨ob, by rw [(hin j).1 hj]; exact hob⟩
  · intro j hj
    rw [(hin j).1 hj]; exact hlt
  · intro j o hj ho
    have := h.lt j (h.al j o (hget j o ho).2).1
    simp only at this hj; omega

/-- An object goes on under a new name, in its own block. -/
theorem step_grow {E : Env} {B0 : Nat} {d : Seg} {B : List Seg} {al : Nat → Prop} {n : Nat} {ρ : Rho} {w w' : World} (h : Rep E B0 ⟨d :: B, al, n, ρ, w⟩)
    {i : Nat} {ob : AObj} (hob : get (d :: B) i = some ob) (o : AObj) (hl : o.ok al) (blk : Obj) (hblk : BlkIs E ρ (ρ i).2 o blk) (hp : Puts w w' (ρ i).1 blk) :
    Step E B0 (In [(n, some o), (i, none)]) ⟨d :: B, al, n, ρ, w⟩
      ⟨([(n, some o), (i, none)] ++ d) :: B, fun j => al j ∨ j = n, n + 1, fun j => if j = n then ρ i else ρ j, w'⟩ := by
  have hin : ∀ j, In [(n, some o), (i, none)] j ↔ j = n ∨ j = i := by
    intro j
    unfold In
    simp only [look, beq_iff_eq]
    constructor
    · rintro ⟨o, ho⟩
      split at ho
      · rename_i hi; exact .inl hi.symm
      · split at ho
        · rename_i hi; exact .inr hi.symm
        · cases ho
    · rintro (rfl | rfl)
      · exact ⟨_, if_pos rfl⟩
      · by_cases e : n = j
        · exact ⟨_, if_pos e⟩
        · exact ⟨none, by rw [if_neg e, if_pos rfl]⟩
  have hlt := h.lt i (h.al i ob hob).1
  simp only at hlt
  have hlo := h.lo i ob hob
  simp only at hlo
  have hget : ∀ j o', get (([(n, some o), (i, none)] ++ d) :: B) j = some o' → (j = n ∧ o' = o) ∨ (j ≠ n ∧ j ≠ i ∧ get (d :: B) j = some o') := by
    intro j o'
    rw [get_append]
    simp only [look, beq_iff_eq]
    by_cases hn : j = n
    · subst hn
      simp only [if_true, Option.some.injEq]
      exact fun e => .inl ⟨trivial, e.symm⟩
    · rw [if_neg (fun x => hn x.symm)]
      by_cases hi : j = i
      · subst hi; simp
      · rw [if_neg (fun x => hi x.symm)]; exact fun h => .inr ⟨hn, hi, h⟩
  have hag : ∀ j, al j → (fun j => if j = n then ρ i else ρ j) j = ρ j := fun j hj => by
    have := h.lt j hj
    simp only at this
    simp only [if_neg (show j ≠ n by omega)]
  have hal' : ∀ j, al j → (fun j => al j ∨ j = n) j := fun j hj => .inl hj
  refine { rep := ?_, al_eq := ?_, n_le := Nat.le_succ n, agree := ?_, kept := fun j hj => get_kept hj, live := ?_, ids := ?_, size := ?_, frame := ?_, newb := ?_, misc := hp.misc }
  · refine { obj := ?_, lo := ?_, inj := ?_, al := ?_, lt := ?_, base := ?_, mem := ?_ }
    · intro j o' ho
      rcases hget j o' ho with ⟨hj, e⟩ | ⟨hj, hji, ho'⟩
      · subst e
        refine ⟨blk, ?_, ?_⟩
        · simp only [if_pos hj]; exact hp.here
        · simp only [if_pos hj]; exact BlkIs_agree hag hl hblk
      · obtain ⟨blk1, hx1, r⟩ := h.obj j o' ho'
        refine ⟨blk1, ?_, ?_⟩
        · simp only [if_neg hj]
          rw [hp.others _ (fun e => hji (h.inj j i o' ob ho' hob e))]
          exact hx1
        · simp only [if_neg hj]; exact BlkIs_agree hag (h.al j o' ho').2 r
    · intro j o' ho
      rcases hget j o' ho with ⟨hj, e⟩ | ⟨hj, hji, ho'⟩
      · simp only [if_pos hj]; exact h.lo i ob hob
      · simp only [if_neg hj]; exact h.lo j o' ho'
    · intro j k o' p ho hp' he
      rcases hget j o' ho with ⟨hj, e⟩ | ⟨hj, hji, ho'⟩ <;> rcases hget k p hp' with ⟨hk, e'⟩ | ⟨hk, hki, hp1⟩
      · omega
      · simp only [if_pos hj, if_neg hk] at he
        exact absurd (h.inj k i p ob hp1 hob he.symm) hki
      · simp only [if_pos hk, if_neg hj] at he
        exact absurd (h.inj j i o' ob ho' hob he) hji
      · simp only [if_neg hj, if_neg hk] at he
        exact h.inj j k o' p ho' hp1 he
    · intro j o' ho
      rcases hget j o' ho with ⟨hj, e⟩ | ⟨hj, hji, ho'⟩
      · subst e
        exact ⟨.inr hj, AObj.ok_mono hal' hl⟩
      · exact ⟨.inl (h.al j o' ho').1, AObj.ok_mono hal' (h.al j o' ho').2⟩
    · rintro j (hj | hj)
      · exact Nat.lt_succ_of_lt (h.lt j hj)
      · simp only; omega
    · have := h.base; simp only at this ⊢; rw [hp.size]; exact this
    · intro b o' v hv
      obtain ⟨m1, m2⟩ := h.mem b o' v hv
      refine ⟨m1, ?_⟩
      simp only at m2 ⊢
      rw [cell_of_heap (hp.others b (by omega))]; exact m2
  · intro j
    simp only
    constructor
    · rintro (hj | hj)
      · exact .inl hj
      · exact .inr (by omega)
    · rintro (hj | hj)
      · exact .inl hj
      · exact .inr (by omega)
  · intro j hj
    simp only at hj ⊢
    rw [if_neg (by omega)]
  · intro j hj hn
    rcases (hin j).1 hj with e | e
    · simp only at hn; omega
    · exact ⟨ob, by rw [e]; exact hob⟩
  · intro j hj
    rcases (hin j).1 hj with e | e <;> simp only <;> omega
  · simp only [hp.size]; exact Nat.le_refl _
  · intro b _ hb
    exact hp.others _ (fun e => hb i ((hin i).2 (.inr rfl)) hlt e.symm)
  · intro j o' hj ho
    rcases hget j o' ho with ⟨hjn, e⟩ | ⟨hjn, hji, ho'⟩
    · right
      exact ⟨i, (hin i).2 (.inr rfl), hlt, by simp only [if_pos hjn]⟩
    · have := h.lt j (h.al j o' ho').1
      simp only at this hj; omega

end Go.Proofs.YtdpielghjaehbaaGreat.Ev

/- The evaluator is sound: one operation. -/
set_option linter.unusedSectionVars false
set_option linter.unusedSimpArgs false
set_option linter.unusedVariables false
namespace Go.Proofs.YtdpielghjaehbaaGreat.Ev
open Go.RowKit

theorem eq_ptr {ρ : Rho} {v : Value} {i off : Nat} (e : v = concV ρ (.c (.ptr i off))) : v = .pointer (some ⟨(ρ i).1, off, none⟩) := e

section
variable {P : Program} {E : Env} {B0 : Nat} {B : List Seg} {d d' : Seg} {al : Nat → Prop} {n n' : Nat} {ρ : Rho} {w : World} {s : Slots} {a : Act} {o : Oper} {v : AV}

/-- In the world that this heap is, the operation yields v and leaves a world that d' is. -/
def Goes (P : Program) (E : Env) (B0 : Nat) (o : Oper) (a : Act) (B : List Seg) (d : Seg) (al : Nat → Prop) (n : Nat) (ρ : Rho) (w : World) (v : AV) (d' : Seg) (n' : Nat) : Prop :=
  ∀ (a2 : Act) (next : Act → World → Prop) (Q : Exit → Act → World → Prop), execOp a2.eval o = execOp a.eval o →
    (∀ δ ρ' al' w', d' = δ ++ d → Step E B0 (In δ) ⟨d :: B, al, n, ρ, w⟩ ⟨d' :: B, al', n', ρ', w'⟩ → v.ok al' → next (a2.put o.dst (concV ρ' v)) w') → o.wp P a2 w next Q

theorem goes_value {ρ' : Rho} {al' : Nat → Prop} {w' : World} {u : Value} (δ : Seg) (hrun : (execOp a.eval o).run P w = .ok (.value u) w') (hd : d' = δ ++ d)
    (hs : Step E B0 (In δ) ⟨d :: B, al, n, ρ, w⟩ ⟨d' :: B, al', n', ρ', w'⟩) (hv : v.ok al') (hu : u = concV ρ' v) : Goes P E B0 o a B d al n ρ w v d' n' := by
  intro a2 next Q ha hk
  unfold Oper.wp
  rw [ha, hrun, hu]
  exact hk δ ρ' al' w' hd hs hv

theorem goes_skip {ρ' : Rho} {al' : Nat → Prop} {w' : World} (δ : Seg) (hrun : (execOp a.eval o).run P w = .ok .skip w') (hd : d' = δ ++ d)
    (hs : Step E B0 (In δ) ⟨d :: B, al, n, ρ, w⟩ ⟨d' :: B, al', n', ρ', w'⟩) : Goes P E B0 o a B d al n ρ w (.c .undef) d' n' := by
  intro a2 next Q ha hk
  unfold Oper.wp
  rw [ha, hrun]
  exact hk δ ρ' al' w' hd hs trivial

theorem goes_same (h : Rep E B0 ⟨d :: B, al, n, ρ, w⟩) (hrun : (execOp a.eval o).run P w = .ok (.value (concV ρ v)) w) (hv : v.ok al) : Goes P E B0 o a B d al n ρ w v d n :=
  goes_value [] hrun rfl (Step.refl h) hv rfl

theorem blk_row {e : Nat} {r : TyRow} (hr : assoc E.tys e = some r) {l : List AC} {cap : Nat} (hlen : l.length = cap * r.size) : BlkIs E ρ cap (.cells e l) (.cells (concs ρ l).toArray e (0, 0)) :=
  ⟨[], by simp, r, hr, by simpa using hlen⟩

variable (h : Rep E B0 ⟨d :: B, al, n, ρ, w⟩) (hE : EnvOk P E) (hs : SlotsOk ρ al s a)
include h hE hs

theorem goes_move {x : Operand} (ho : o.op = .move x ∨ o.op = .assign x) (hv : val s x = some v) : Goes P E B0 o a B d al n ρ w v d n := by
  obtain ⟨e, k⟩ := val_conc hs hv
  refine goes_same h ?_ k
  rcases ho with ho | ho <;> simp [execOp, ho, e]

theorem goes_pick {c x y : Operand} {t : Bool} {vx vy : AV} (ho : o.op = .pick c x y) (hc : val s c = some (.c (.bool t))) (hx : val s x = some vx) (hy : val s y = some vy) :
    Goes P E B0 o a B d al n ρ w (if t then vx else vy) d n := by
  obtain ⟨ec, _⟩ := val_conc hs hc
  obtain ⟨ex, kx⟩ := val_conc hs hx
  obtain ⟨ey, ky⟩ := val_conc hs hy
  refine goes_same h ?_ (by cases t <;> simpa)
  cases t <;> simp [execOp, ho, ec, concV, conc, asBool, ex, ey]

theorem info_of {t : Nat} {r : TyRow} (hr : assoc E.tys t = some r) : ∃ i z, P.info? t = some i ∧ i.size = r.size ∧ i.bytes = r.bytes ∧ i.zero = some z ∧ ∀ ρ, z.cells = (concs ρ r.zero).toArray := by
  obtain ⟨i, z, h1, h2, h3, h4, h5⟩ := (hE.tys t r hr).info
  exact ⟨i, z, h1, h2, h3, h4, fun ρ => by rw [h5, concs_plain (hE.tys t r hr).plain]⟩

theorem zero_ok {t : Nat} {r : TyRow} (hr : assoc E.tys t = some r) : ∀ x ∈ r.zero, x.ok al := fun x hx => ok_plain (List.all_eq_true.1 (hE.tys t r hr).plain x hx)

theorem goes_alloc {t : Nat} {r : TyRow} (ho : o.op = .alloc t) (hr : assoc E.tys t = some r) (hl : r.zero.length = r.size) :
    Goes P E B0 o a B d al n ρ w (.c (.ptr n 0)) ((n, some (.cells t r.zero)) :: d) (n + 1) := by
  obtain ⟨i, z, h1, h2, h3, h4, h5⟩ := info_of h hE hs hr
  have hst := step_new (w1 := w) h (.cells t r.zero) (zero_ok h hE hs hr) _ 1 (blk_row hr (by omega)) ⟨rfl, rfl, rfl, rfl⟩
  refine goes_value (u := .pointer (some ⟨w.heap.size, 0, none⟩)) _ ?_ rfl hst (.inr rfl) (by simp [concV, conc])
  simp [execOp, ho, Instr.alloc, zeroValue, typeInfo, h1, h4, newVar, newRow, World.alloc_eq, h5 ρ]

theorem goes_box {t : Nat} {r : TyRow} {x : Operand} {u : AV} (ho : o.op = .box t x) (hr : assoc E.tys t = some r) (hx : val s x = some u) (hl : (cellsOf u).length = r.size) (hg : cellsGood (cellsOf u) = true) (h0 : r.size ≠ 0) :
    Goes P E B0 o a B d al n ρ w (.c (.ptr n 0)) ((n, some (.cells t (cellsOf u))) :: d) (n + 1) := by
  obtain ⟨ex, kx⟩ := val_conc hs hx
  have hok : ∀ c ∈ cellsOf u, c.ok al := by
    cases u with
    | c y => intro c hc; simp only [cellsOf, List.mem_singleton] at hc; subst hc; exact kx
    | agg l => exact kx
    | tup l => simp [cellsOf]
  have hst := step_new (w1 := w) h (.cells t (cellsOf u)) hok _ 1 (blk_row hr (by omega)) ⟨rfl, rfl, rfl, rfl⟩
  refine goes_value (u := .pointer (some ⟨w.heap.size, 0, none⟩)) _ ?_ rfl hst (.inr rfl) (by simp [concV, conc])
  have hc := concV_cells (ρ := ρ) hg (.inl (by omega))
  simp [execOp, ho, Instr.box, newVar, newRow, World.alloc_eq, ex, hc]

theorem nilCheck_goes {x : Operand} {i off : Nat} (ho : o.op = .nilCheck x) (hx : val s x = some (.c (.ptr i off))) : Goes P E B0 o a B d al n ρ w (.c (.ptr i off)) d n := by
  obtain ⟨ex, kx⟩ := val_conc hs hx
  refine goes_same h ?_ kx
  simp [execOp, ho, ex, concV, conc]

theorem nilCheck_raw {x : Operand} {p : Addr} (ho : o.op = .nilCheck x) (hx : val s x = some (.c (.raw (.pointer (some p))))) : Goes P E B0 o a B d al n ρ w (.c (.raw (.pointer (some p)))) d n := by
  obtain ⟨ex, kx⟩ := val_conc hs hx
  refine goes_same h ?_ kx
  simp [execOp, ho, ex, concV, conc]

theorem goes_extract_unit {x : Operand} {i : Nat} {l : List AC} (ho : o.op = .extract x i) (hx : val s x = some (.tup l)) (hc : l[i]? = some (.raw (.agg ⟨[]⟩))) : Goes P E B0 o a B d al n ρ w (.agg []) d n := by
  obtain ⟨ex, kx⟩ := val_conc hs hx
  refine goes_same h ?_ (fun c hc => by cases hc)
  have : (concs ρ l)[i]? = some (.agg #[]) := by simp [concs, hc, conc]
  rw [show concV ρ (.agg []) = .agg #[] from rfl]
  simp [execOp, ho, ex, concV, Instr.extract, this]

theorem goes_extract {x : Operand} {i : Nat} {l : List AC} {c : AC} (ho : o.op = .extract x i) (hx : val s x = some (.tup l)) (hc : l[i]? = some c) : Goes P E B0 o a B d al n ρ w (.c c) d n := by
  obtain ⟨ex, kx⟩ := val_conc hs hx
  refine goes_same h ?_ (kx c (List.mem_of_getElem? hc))
  have : (concs ρ l)[i]? = some (conc ρ c) := by simp [concs, hc]
  simp [execOp, ho, ex, concV, Instr.extract, this]

theorem goes_not {x : Operand} {t : Nat} {b : Bool} (ho : o.op = .unOp .not t x) (hx : val s x = some (.c (.bool b))) : Goes P E B0 o a B d al n ρ w (.c (.bool (!b))) d n := by
  obtain ⟨ex, kx⟩ := val_conc hs hx
  refine goes_same h ?_ trivial
  simp [execOp, ho, ex, concV, conc, Op.unary]

theorem isAgg_run {t : Nat} {r : TyRow} (hr : assoc E.tys t = some r) (w : World) : (isAgg t).run P w = .ok (isAggD r.desc) w := by
  have := (hE.tys t r hr).und
  simp only [isAgg, Sem.run_bind, run_underlying this, Result.andThen_ok]
  cases r.desc <;> rfl

theorem loadVar_run {t : Nat} {r : TyRow} (hr : assoc E.tys t = some r) {i off e : Nat} {cs : List AC} (hob : get (d :: B) i = some (.cells e cs)) {v : AV}
    (hv : (if isAggD r.desc then (if off + r.size ≤ cs.length then some (AV.agg ((cs.drop off).take r.size)) else none)
        else (match cs[off]? with
          | some x => some (.c x)
          | none => none)) = some v) : (loadVar t ⟨(ρ i).1, off, none⟩).run P w = .ok (concV ρ v) w ∧ v.ok al := by
  have hok : ∀ c ∈ cs, c.ok al := (h.al i _ hob).2
  obtain ⟨inf, z, h1, h2, h3, h4, h5⟩ := info_of h hE hs hr
  cases ha : isAggD r.desc with
  | true =>
    rw [ha] at hv
    simp only [if_true] at hv
    split at hv
    · rename_i hle
      simp only [Option.some.injEq] at hv
      subst hv
      refine ⟨?_, fun x hx => hok x (List.mem_of_mem_drop (List.mem_of_mem_take hx))⟩
      have hl := run_loadCells_list (P := P) w ⟨(ρ i).1, off, none⟩ (concs ρ ((cs.drop off).take r.size)) (fun j u hj => by
        simp only [concs, List.getElem?_map] at hj
        obtain ⟨c, hc, rfl⟩ := Option.map_eq_some_iff.1 hj
        have hj' : j < r.size := by
          rcases Nat.lt_or_ge j r.size with hl | hl
          · exact hl
          · rw [List.getElem?_take_eq_none hl] at hc; cases hc
        rw [List.getElem?_take_of_lt hj', List.getElem?_drop] at hc
        rw [Addr.add_lit]
        exact h.cell hob hc)
      have hlen : (concs ρ ((cs.drop off).take r.size)).length = r.size := by
        rw [length_concs, List.length_take, List.length_drop]; omega
      rw [hlen] at hl
      simp [loadVar, isAgg_run h hE hs hr, ha, sizeOf, typeInfo, h1, h2, hl, concV]
    · cases hv
  | false =>
    rw [ha] at hv
    simp only [Bool.false_eq_true, if_false] at hv
    split at hv
    · rename_i x hx
      simp only [Option.some.injEq] at hv
      subst hv
      refine ⟨?_, hok x (List.mem_of_getElem? hx)⟩
      have hc := h.cell hob hx
      simp only at hc
      simp [loadVar, isAgg_run h hE hs hr, ha, hc, concV]
    · cases hv

theorem goes_load {t : Nat} {r : TyRow} {x : Operand} {i off e : Nat} {cs : List AC} (ho : o.op = .load t x) (hr : assoc E.tys t = some r) (hx : val s x = some (.c (.ptr i off))) (hob : get (d :: B) i = some (.cells e cs))
    (hv : (if isAggD r.desc then (if off + r.size ≤ cs.length then some (AV.agg ((cs.drop off).take r.size)) else none)
        else (match cs[off]? with
          | some x => some (.c x)
          | none => none)) = some v) : Goes P E B0 o a B d al n ρ w v d n := by
  obtain ⟨ex, kx⟩ := val_conc hs hx
  obtain ⟨hl, hk⟩ := loadVar_run h hE hs hr hob hv
  refine goes_same h ?_ hk
  simp [execOp, ho, eq_ptr ex, Instr.loadAt, Instr.sureAddr, hl]

theorem memCells_spec : ∀ (k b off : Nat) (l : List AC), memCells E b off k = some l → l.length = k ∧ (∀ c ∈ l, c.ok al) ∧ ∀ j u, (concs ρ l)[j]? = some u → w.cell? ⟨b, off + j, none⟩ = some u
  | 0, b, off, l, hl => by
    simp only [memCells, Option.some.injEq] at hl
    subst hl
    exact ⟨rfl, fun _ hc => (by cases hc), fun j u hj => by simp [concs] at hj⟩
  | k + 1, b, off, l, hl => by
    simp only [memCells] at hl
    split at hl
    · rename_i v l' h1 h2
      simp only [Option.some.injEq] at hl
      subst hl
      obtain ⟨g1, g2, g3⟩ := memCells_spec k b (off + 1) l' h2
      refine ⟨by simp [g1], ?_, ?_⟩
      · intro c hc
        cases hc with
        | head => exact ok_lift al v
        | tail _ hc => exact g2 c hc
      · intro j u hj
        cases j with
        | zero =>
          simp only [concs, List.map_cons, List.getElem?_cons_zero, Option.some.injEq] at hj
          subst hj
          rw [conc_lift]
          exact (h.mem b off v h1).2
        | succ j =>
          have := g3 j u (by simpa [concs] using hj)
          rw [← this]
          congr 2
          omega
    · cases hl

theorem goes_loadRaw {t : Nat} {r : TyRow} {x : Operand} {b off : Nat} (ho : o.op = .load t x) (hr : assoc E.tys t = some r) (hx : val s x = some (.c (.raw (.pointer (some ⟨b, off, none⟩)))))
    (hv : (if isAggD r.desc then (match memCells E b off r.size with
        | some l => some (AV.agg l)
        | none => none)
      else (match E.mem b off with
        | some x => some (.c (lift x))
        | none => none)) = some v) : Goes P E B0 o a B d al n ρ w v d n := by
  obtain ⟨ex, kx⟩ := val_conc hs hx
  obtain ⟨inf, z, h1, h2, h3, h4, h5⟩ := info_of h hE hs hr
  cases ha : isAggD r.desc with
  | true =>
    rw [ha] at hv
    simp only [if_true] at hv
    split at hv
    · rename_i l hl
      simp only [Option.some.injEq] at hv
      subst hv
      obtain ⟨g1, g2, g3⟩ := memCells_spec h hE hs r.size b off l hl
      refine goes_same h ?_ g2
      have hrun := run_loadCells_list (P := P) w ⟨b, off, none⟩ (concs ρ l) (fun j u hj => by rw [Addr.add_lit]; exact g3 j u hj)
      rw [length_concs, g1] at hrun
      simp [execOp, ho, ex, concV, conc, Instr.loadAt, Instr.sureAddr, loadVar, isAgg_run h hE hs hr, ha, sizeOf, typeInfo, h1, h2, hrun]
    · cases hv
  | false =>
    rw [ha] at hv
    simp only [Bool.false_eq_true, if_false] at hv
    split at hv
    · rename_i u hu
      simp only [Option.some.injEq] at hv
      subst hv
      refine goes_same h ?_ (ok_lift al u)
      have hc := (h.mem b off u hu).2
      simp only at hc
      have ex' : a.eval x = .pointer (some ⟨b, off, none⟩) := ex
      rw [show concV ρ (.c (lift u)) = u from conc_lift ρ u]
      simp [execOp, ho, ex', Instr.loadAt, Instr.sureAddr, loadVar, isAgg_run h hE hs hr, ha, hc]
    · cases hv

theorem goes_store {t : Nat} {r : TyRow} {x y : Operand} {i off e : Nat} {cs : List AC} {u : AV} (ho : o.op = .store t x y) (hr : assoc E.tys t = some r) (hx : val s x = some (.c (.ptr i off))) (hy : val s y = some u)
    (hob : get (d :: B) i = some (.cells e cs)) (hl : (cellsOf u).length = r.size) (hg : cellsGood (cellsOf u) = true) (hle : off + (cellsOf u).length ≤ cs.length) (h0 : r.size ≠ 0 ∨ isAggV u = true) :
    Goes P E B0 o a B d al n ρ w (.c .undef) ((i, some (.cells e (splice cs off (cellsOf u)))) :: d) n := by
  obtain ⟨ex, kx⟩ := val_conc hs hx
  obtain ⟨ey, ky⟩ := val_conc hs hy
  have hok : ∀ c ∈ cellsOf u, c.ok al := by
    cases u with
    | c y => intro c hc; simp only [cellsOf, List.mem_singleton] at hc; subst hc; exact ky
    | agg l => exact ky
    | tup l => simp [cellsOf]
  have hob' : ∀ c ∈ cs, c.ok al := (h.al i _ hob).2
  have hok' : ∀ c ∈ splice cs off (cellsOf u), c.ok al := by
    intro c hc
    simp only [splice, List.mem_append] at hc
    rcases hc with (hc | hc) | hc
    · exact hob' c (List.mem_of_mem_take hc)
    · exact hok c hc
    · exact hob' c (List.mem_of_mem_drop hc)
  obtain ⟨exs, hx1, r1, hr1, hl1⟩ := h.row hob
  simp only at hx1 hl1
  obtain ⟨inf, z, h1, h2, h3, h4, h5⟩ := info_of h hE hs hr
  have hc := concV_cells (ρ := ρ) hg (h0.imp (fun h => by omega) id)
  have hrun := run_storeCells_at P (ρ i).1 off e (concs ρ (cellsOf u)) 0 _ w hx1 (by simp [length_concs]; omega) (oneCell_concs hg)
  simp only [Nat.add_zero] at hrun
  have e1 : ((concs ρ cs ++ exs).toArray.toList.take off ++ concs ρ (cellsOf u) ++ (concs ρ cs ++ exs).toArray.toList.drop (off + (concs ρ (cellsOf u)).length)) = concs ρ (splice cs off (cellsOf u)) ++ exs := by
    have hlen := length_concs ρ cs
    have hlen2 := length_concs ρ (cellsOf u)
    rw [concs_splice]
    simp only
    rw [List.take_append_of_le_length (by omega), List.drop_append_of_le_length (by omega)]
    simp only [List.append_assoc]
  rw [e1] at hrun
  have hst := step_set h hob (.cells e (splice cs off (cellsOf u))) hok' _ ⟨exs, rfl, r1, hr1, by simp only [splice, List.length_append, List.length_take, List.length_drop]; omega⟩ (puts_setRow (cs := (concs ρ (splice cs off (cellsOf u)) ++ exs).toArray) hx1)
  refine goes_skip _ ?_ rfl hst
  have hsz : (concs ρ (cellsOf u)).length = r.size := by rw [length_concs]; exact hl
  simp [execOp, ho, eq_ptr ex, ey, Instr.storeAt, Instr.sureAddr, storeVar, hc, sizeOf, typeInfo, h1, h2, hsz, hrun]

end
end Go.Proofs.YtdpielghjaehbaaGreat.Ev

/- The evaluator is sound: one operation, the rest. -/
set_option linter.unusedSectionVars false
set_option linter.unusedSimpArgs false
set_option linter.unusedVariables false
namespace Go.Proofs.YtdpielghjaehbaaGreat.Ev
open Go.RowKit

section
variable {P : Program} {E : Env} {B0 : Nat} {B : List Seg} {d d' : Seg} {al : Nat → Prop} {n n' : Nat} {ρ : Rho} {w : World} {s : Slots} {a : Act} {o : Oper} {v : AV}
variable (h : Rep E B0 ⟨d :: B, al, n, ρ, w⟩) (hE : EnvOk P E) (hs : SlotsOk ρ al s a)
include h hE hs

theorem eq_int {v : Value} {k : IntKind} {m : Int} (e : v = concV ρ (.c (.int k m))) : v = .int k m := e
theorem eq_str {v : Value} {l : List UInt8} (e : v = concV ρ (.c (.str l))) : v = .string ⟨l.toArray⟩ := e
theorem eq_bool {v : Value} {b : Bool} (e : v = concV ρ (.c (.bool b))) : v = .bool b := e
theorem eq_sl {v : Value} {i len : Nat} (e : v = concV ρ (.c (.sl i len))) : v = .slice (some ⟨(ρ i).1, 0, none⟩) len (ρ i).2 := e
theorem eq_raw {v u : Value} (e : v = concV ρ (.c (.raw u))) : v = u := e
theorem eq_mref {v : Value} {i : Nat} (e : v = concV ρ (.c (.mref i))) : v = .map (some (ρ i).1) := e
theorem eq_sl0 {v : Value} (e : v = concV ρ (.c .sl0)) : v = .slice none 0 0 := e

theorem goes_fieldAddr {t f : Nat} {r rf : TyRow} {x : Operand} {i off : Nat} {fields : Array Field} {fd : Field} (ho : o.op = .fieldAddr t x f) (hr : assoc E.tys t = some r) (hx : val s x = some (.c (.ptr i off)))
    (hd : r.desc = .struct fields) (hf : fields.toList[f]? = some fd) (hrf : assoc E.tys fd.type = some rf) (h0 : rf.size ≠ 0) : Goes P E B0 o a B d al n ρ w (.c (.ptr i (off + fd.offset))) d n := by
  obtain ⟨ex, kx⟩ := val_conc hs hx
  refine goes_same h ?_ kx
  have hu := (hE.tys t r hr).und
  rw [hd] at hu
  obtain ⟨inf, z, h1, h2, h3, h4, h5⟩ := info_of h hE hs hrf
  have hf' : fields[f]? = some fd := by simpa using hf
  simp [execOp, ho, eq_ptr ex, Instr.fieldAt, Instr.sureAddr, run_underlying hu, hf', fieldPlace, sizeOf, typeInfo, h1, h2, h0, concV, conc, Addr.add_lit]

theorem goes_indexAddr {t e : Nat} {r re : TyRow} {x y : Operand} {i len : Nat} {kk : IntKind} {k : Int} (ho : o.op = .indexAddr t x y) (hr : assoc E.tys t = some r) (hx : val s x = some (.c (.sl i len))) (hy : val s y = some (.c (.int kk k)))
    (hd : r.desc = .slice e) (hre : assoc E.tys e = some re) (h0 : 0 ≤ k) (h1 : k < len) : Goes P E B0 o a B d al n ρ w (.c (.ptr i (k.toNat * re.size))) d n := by
  obtain ⟨ex, kx⟩ := val_conc hs hx
  obtain ⟨ey, ky⟩ := val_conc hs hy
  refine goes_same h ?_ kx
  have hu := (hE.tys t r hr).und
  rw [hd] at hu
  obtain ⟨inf, z, g1, g2, g3, g4, g5⟩ := info_of h hE hs hre
  simp [execOp, ho, eq_sl h hE hs ex, eq_int h hE hs ey, Instr.indexAt, asIntOf, run_underlying hu, h0, h1, sizeOf, typeInfo, g1, g2, concV, conc, Addr.add_lit]

theorem goes_fieldAddr_raw {t f : Nat} {r rf : TyRow} {x : Operand} {b off : Nat} {fields : Array Field} {fd : Field} (ho : o.op = .fieldAddr t x f) (hr : assoc E.tys t = some r) (hx : val s x = some (.c (.raw (.pointer (some ⟨b, off, none⟩)))))
    (hd : r.desc = .struct fields) (hf : fields.toList[f]? = some fd) (hrf : assoc E.tys fd.type = some rf) (h0 : rf.size ≠ 0) : Goes P E B0 o a B d al n ρ w (.c (.raw (.pointer (some ⟨b, off + fd.offset, none⟩)))) d n := by
  obtain ⟨ex, kx⟩ := val_conc hs hx
  refine goes_same h ?_ trivial
  have hu := (hE.tys t r hr).und
  rw [hd] at hu
  obtain ⟨inf, z, h1, h2, h3, h4, h5⟩ := info_of h hE hs hrf
  have hf' : fields[f]? = some fd := by simpa using hf
  simp [execOp, ho, eq_raw h hE hs ex, Instr.fieldAt, Instr.sureAddr, run_underlying hu, hf', fieldPlace, sizeOf, typeInfo, h1, h2, h0, concV, conc, Addr.add_lit]

theorem goes_indexAddr_raw {t e : Nat} {r re : TyRow} {x y : Operand} {b off len cap : Nat} {kk : IntKind} {k : Int} (ho : o.op = .indexAddr t x y) (hr : assoc E.tys t = some r) (hx : val s x = some (.c (.raw (.slice (some ⟨b, off, none⟩) len cap)))) (hy : val s y = some (.c (.int kk k)))
    (hd : r.desc = .slice e) (hre : assoc E.tys e = some re) (h0 : 0 ≤ k) (h1 : k < len) : Goes P E B0 o a B d al n ρ w (.c (.raw (.pointer (some ⟨b, off + k.toNat * re.size, none⟩)))) d n := by
  obtain ⟨ex, kx⟩ := val_conc hs hx
  obtain ⟨ey, ky⟩ := val_conc hs hy
  refine goes_same h ?_ trivial
  have hu := (hE.tys t r hr).und
  rw [hd] at hu
  obtain ⟨inf, z, g1, g2, g3, g4, g5⟩ := info_of h hE hs hre
  simp [execOp, ho, eq_raw h hE hs ex, eq_int h hE hs ey, Instr.indexAt, asIntOf, run_underlying hu, h0, h1, sizeOf, typeInfo, g1, g2, concV, conc, Addr.add_lit]

theorem goes_index {t : Nat} {r : TyRow} {x y : Operand} {l : List UInt8} {kk : IntKind} {k : Int} {b : UInt8} (ho : o.op = .index t x y) (hr : assoc E.tys t = some r) (hx : val s x = some (.c (.str l))) (hy : val s y = some (.c (.int kk k)))
    (hd : r.desc = .string) (h0 : 0 ≤ k) (hb : l[k.toNat]? = some b) : Goes P E B0 o a B d al n ρ w (.c (.int .u8 b.toNat)) d n := by
  obtain ⟨ex, kx⟩ := val_conc hs hx
  obtain ⟨ey, ky⟩ := val_conc hs hy
  refine goes_same h ?_ trivial
  have hu := (hE.tys t r hr).und
  rw [hd] at hu
  have hb' : (⟨l.toArray⟩ : ByteArray)[k.toNat]? = some b := by
    obtain ⟨hk, rfl⟩ := List.getElem?_eq_some_iff.1 hb
    have hk' : k.toNat < (⟨l.toArray⟩ : ByteArray).size := by simpa [ByteArray.size] using hk
    rw [getElem?_pos (⟨l.toArray⟩ : ByteArray) k.toNat hk']
    rfl
  simp [execOp, ho, eq_str h hE hs ex, eq_int h hE hs ey, Instr.index, asIntOf, run_underlying hu, h0, hb', concV, conc]

theorem goes_slice {t : Nat} {r : TyRow} {x lo hi : Operand} {l : List UInt8} {k1 k2 : IntKind} {p q : Int} (ho : o.op = .slice t x (some lo) (some hi) none) (hr : assoc E.tys t = some r) (hx : val s x = some (.c (.str l)))
    (hlo : val s lo = some (.c (.int k1 p))) (hhi : val s hi = some (.c (.int k2 q))) (hd : r.desc = .string) (h0 : 0 ≤ p) (h1 : p ≤ q) (h2 : q ≤ l.length) :
    Goes P E B0 o a B d al n ρ w (.c (.str ((l.take q.toNat).drop p.toNat))) d n := by
  obtain ⟨ex, kx⟩ := val_conc hs hx
  obtain ⟨e1, _⟩ := val_conc hs hlo
  obtain ⟨e2, _⟩ := val_conc hs hhi
  refine goes_same h ?_ trivial
  have hu := (hE.tys t r hr).und
  rw [hd] at hu
  have hq : 0 ≤ q := by omega
  have hpq : p ≤ (q.toNat : Int) := by omega
  have hsz : q ≤ ((⟨l.toArray⟩ : ByteArray).size : Int) := by simpa [ByteArray.size] using h2
  have hmx : max q 0 = q := by omega
  have hnl : ¬ q < p := by omega
  have he : (⟨l.toArray⟩ : ByteArray).extract p.toNat q.toNat = ⟨((l.take q.toNat).drop p.toNat).toArray⟩ := by
    rw [ByteArray.ext_iff, ByteArray.data_extract]
    apply Array.ext'
    simp [List.extract, List.drop_take]
  simp [execOp, ho, eq_str h hE hs ex, eq_int h hE hs e1, eq_int h hE hs e2, Instr.sliceAt, Instr.slice, Instr.sliceBounds, Instr.sliceBound, asIntOf, run_underlying hu, h0, hq, hpq, hsz, hmx, hnl, h1, concV, conc, he]

theorem goes_slice_lo {t : Nat} {r : TyRow} {x lo : Operand} {l : List UInt8} {k1 : IntKind} {p : Int} (ho : o.op = .slice t x (some lo) none none) (hr : assoc E.tys t = some r) (hx : val s x = some (.c (.str l)))
    (hlo : val s lo = some (.c (.int k1 p))) (hd : r.desc = .string) (h0 : 0 ≤ p) (h1 : p ≤ l.length) : Goes P E B0 o a B d al n ρ w (.c (.str (l.drop p.toNat))) d n := by
  obtain ⟨ex, kx⟩ := val_conc hs hx
  obtain ⟨e1, _⟩ := val_conc hs hlo
  refine goes_same h ?_ trivial
  have hu := (hE.tys t r hr).und
  rw [hd] at hu
  have hsz : p ≤ ((⟨l.toArray⟩ : ByteArray).size : Int) := by simpa [ByteArray.size] using h1
  have he : (⟨l.toArray⟩ : ByteArray).extract p.toNat (⟨l.toArray⟩ : ByteArray).size = ⟨(l.drop p.toNat).toArray⟩ := by
    rw [ByteArray.ext_iff, ByteArray.data_extract]
    apply Array.ext'
    have : (⟨l.toArray⟩ : ByteArray).size = l.length := List.size_toArray
    simp [List.extract, this]
    exact List.take_of_length_le (by simp)
  simp [execOp, ho, eq_str h hE hs ex, eq_int h hE hs e1, Instr.sliceAt, Instr.slice, Instr.sliceBounds, Instr.sliceBound, asIntOf, run_underlying hu, h0, hsz, concV, conc, he]

theorem goes_slice_hi {t : Nat} {r : TyRow} {x hi : Operand} {l : List UInt8} {k1 : IntKind} {p : Int} (ho : o.op = .slice t x none (some hi) none) (hr : assoc E.tys t = some r) (hx : val s x = some (.c (.str l)))
    (hlo : val s hi = some (.c (.int k1 p))) (hd : r.desc = .string) (h0 : 0 ≤ p) (h1 : p ≤ l.length) : Goes P E B0 o a B d al n ρ w (.c (.str (l.take p.toNat))) d n := by
  obtain ⟨ex, kx⟩ := val_conc hs hx
  obtain ⟨e1, _⟩ := val_conc hs hlo
  refine goes_same h ?_ trivial
  have hu := (hE.tys t r hr).und
  rw [hd] at hu
  have hsz : p ≤ ((⟨l.toArray⟩ : ByteArray).size : Int) := by simpa [ByteArray.size] using h1
  have he : (⟨l.toArray⟩ : ByteArray).extract 0 p.toNat = ⟨(l.take p.toNat).toArray⟩ := by
    rw [ByteArray.ext_iff, ByteArray.data_extract]
    apply Array.ext'
    simp [List.extract]
  simp [execOp, ho, eq_str h hE hs ex, eq_int h hE hs e1, Instr.sliceAt, Instr.slice, Instr.sliceBounds, Instr.sliceBound, asIntOf, run_underlying hu, h0, hsz, concV, conc, he]

theorem goes_slice_row {t e : Nat} {r re : TyRow} {x hi : Operand} {i len ei : Nat} {ci : List AC} {k1 : IntKind} {p : Int} (ho : o.op = .slice t x none (some hi) none) (hr : assoc E.tys t = some r) (hx : val s x = some (.c (.sl i len)))
    (hlo : val s hi = some (.c (.int k1 p))) (hd : r.desc = .slice e) (hre : assoc E.tys e = some re) (hob : get (d :: B) i = some (.cells ei ci)) (h0 : 0 ≤ p) (h1 : p ≤ len) (hei : ei = e) (hz : re.size ≠ 0) (hle : len * re.size ≤ ci.length) :
    Goes P E B0 o a B d al n ρ w (.c (.sl i p.toNat)) d n := by
  obtain ⟨ex, kx⟩ := val_conc hs hx
  obtain ⟨e1, _⟩ := val_conc hs hlo
  refine goes_same h ?_ kx
  have hu := (hE.tys t r hr).und
  rw [hd] at hu
  subst hei
  obtain ⟨exs, hx1, r1, hr1, hl1⟩ := h.row hob
  rw [hre] at hr1
  simp only [Option.some.injEq] at hr1; subst hr1
  simp only at hl1
  have hcap : len ≤ (ρ i).2 := by
    have : len * re.size ≤ (ρ i).2 * re.size := by omega
    exact Nat.le_of_mul_le_mul_right this (by omega)
  have hpc : p ≤ ((ρ i).2 : Int) := by omega
  obtain ⟨inf, z, g1, g2, g3, g4, g5⟩ := info_of h hE hs hre
  simp [execOp, ho, eq_sl h hE hs ex, eq_int h hE hs e1, Instr.sliceAt, Instr.slice, Instr.sliceBounds, Instr.sliceBound, asIntOf, run_underlying hu, h0, hpc, sizeOf, typeInfo, g1, concV, conc, Addr.add_lit]

theorem goes_slice_raw {t e : Nat} {r re : TyRow} {x hi : Operand} {b off len cap : Nat} {k1 : IntKind} {p : Int} (ho : o.op = .slice t x none (some hi) none) (hr : assoc E.tys t = some r) (hx : val s x = some (.c (.raw (.slice (some ⟨b, off, none⟩) len cap))))
    (hlo : val s hi = some (.c (.int k1 p))) (hd : r.desc = .slice e) (hre : assoc E.tys e = some re) (h0 : 0 ≤ p) (h1 : p ≤ cap) :
    Goes P E B0 o a B d al n ρ w (.c (.raw (.slice (some ⟨b, off, none⟩) p.toNat cap))) d n := by
  obtain ⟨ex, kx⟩ := val_conc hs hx
  obtain ⟨e1, _⟩ := val_conc hs hlo
  refine goes_same h ?_ kx
  have hu := (hE.tys t r hr).und
  rw [hd] at hu
  obtain ⟨inf, z, g1, g2, g3, g4, g5⟩ := info_of h hE hs hre
  simp [execOp, ho, eq_raw h hE hs ex, eq_int h hE hs e1, Instr.sliceAt, Instr.slice, Instr.sliceBounds, Instr.sliceBound, asIntOf, run_underlying hu, h0, h1, sizeOf, typeInfo, g1, concV, conc, Addr.add_lit]

theorem sameBytes_eq : ∀ (x y : List UInt8), sameBytes x y = (x == y)
  | [], [] => rfl
  | [], _ :: _ => rfl
  | _ :: _, [] => rfl
  | c :: x, e :: y => by
    rw [sameBytes, sameBytes_eq x y]
    have : (c.toNat == e.toNat) = (c == e) := by rw [Bool.eq_iff_iff]; simp [UInt8.toNat_inj]
    rw [this]; rfl

theorem cmp_run {op : BinOp} {x y : Int} {c : AC} (hc : cmpInt op x y = some c) (w : World) : (Op.intCmp op x y).run P w = .ok (conc ρ c) w ∧ c.ok al := by
  unfold cmpInt at hc
  split at hc <;> first
    | (simp only [Option.some.injEq] at hc; subst hc; exact ⟨by simp [Op.intCmp, conc], trivial⟩)
    | cases hc

theorem goes_binOp {op : BinOp} {t t' : Nat} {x y : Operand} {u1 u2 : AV} {c : AC} (ho : o.op = .binOp op t x y t') (hx : val s x = some u1) (hy : val s y = some u2) (hc : evBin E op t u1 u2 = some c) :
    Goes P E B0 o a B d al n ρ w (.c c) d n := by
  obtain ⟨ex, kx⟩ := val_conc hs hx
  obtain ⟨ey, ky⟩ := val_conc hs hy
  unfold evBin at hc
  split at hc
  · rename_i k p k' q
    split at hc
    · rename_i hk
      have hkk : k = k' := by
        simp only [Bool.and_eq_true, beq_iff_eq] at hk
        revert hk
        cases k <;> cases k' <;> simp [IntKind.bits, IntKind.signed]
      subst hkk
      have e1 := eq_int h hE hs ex
      have e2 := eq_int h hE hs ey
      have hg : (eqGuard op t x y (.int k p) (.int k q)).run P w = .ok () w := by
        unfold eqGuard; cases op <;> simp
      split at hc
      all_goals first
        | (simp only [Option.some.injEq] at hc; subst hc
           exact goes_same h (by simp [execOp, ho, e1, e2, hg, Go.binOp, Op.intArith, Op.intBits, concV, conc]) trivial)
        | (split at hc
           · cases hc
           · rename_i hq
             simp only [Option.some.injEq] at hc; subst hc
             have hq' : q ≠ 0 := by simpa using hq
             exact goes_same h (by simp [execOp, ho, e1, e2, hg, Go.binOp, Op.intDiv, hq', concV, conc]) trivial)
        | (split at hc
           · rename_i hq
             simp only [Option.some.injEq] at hc; subst hc
             have hb8 : q ≤ k.bits := by cases k <;> simp only [IntKind.bits] <;> omega
             exact goes_same h (by simp [execOp, ho, e1, e2, hg, Go.binOp, shift_shr k k p q hq.1 hb8, concV, conc]) trivial
           · cases hc)
        | (obtain ⟨hr, hk⟩ := cmp_run h hE hs hc w
           refine goes_same h ?_ hk
           have hr' : (Go.binOp op t (.int k p) (.int k q)).run P w = .ok (conc ρ c) w := by
             cases op <;> first
               | (simp [cmpInt] at hc; done)
               | (simpa [Go.binOp] using hr)
           simp [execOp, ho, e1, e2, hg, hr', concV])
    · cases hc
  · rename_i l1 l2
    have e1 := eq_str h hE hs ex
    have e2 := eq_str h hE hs ey
    have hg : (eqGuard op t x y (.string ⟨l1.toArray⟩) (.string ⟨l2.toArray⟩)).run P w = .ok () w := by
      unfold eqGuard; cases op <;> simp
    split at hc
    · split at hc
      · rename_i hlt
        simp only [Option.some.injEq] at hc; subst hc
        have hsz : ¬ ((((⟨l1.toArray⟩ : ByteArray).size + (⟨l2.toArray⟩ : ByteArray).size : Nat) : Int) > IntKind.i64.max) := by
          simp only [ByteArray.size, List.size_toArray]
          have : IntKind.i64.max = 9223372036854775807 := by decide
          omega
        have he : (⟨l1.toArray⟩ : ByteArray) ++ ⟨l2.toArray⟩ = ⟨(l1 ++ l2).toArray⟩ := by
          rw [ByteArray.ext_iff, ByteArray.data_append]
          simp
        refine goes_same h ?_ trivial
        have hop : (Op.stringOp .add (⟨l1.toArray⟩ : ByteArray) ⟨l2.toArray⟩).run P w = .ok (.string ⟨(l1 ++ l2).toArray⟩) w := by
          simp only [Op.stringOp]
          rw [if_neg hsz, he]; rfl
        simp [execOp, ho, e1, e2, hg, Go.binOp, hop, concV, conc]
      · cases hc
    · simp only [Option.some.injEq] at hc; subst hc
      refine goes_same h ?_ trivial
      simp [execOp, ho, e1, e2, hg, Go.binOp, Op.stringOp, ByteArray.toList_eq, sameBytes_eq h hE hs, concV, conc]
    · simp only [Option.some.injEq] at hc; subst hc
      refine goes_same h ?_ trivial
      simp [execOp, ho, e1, e2, hg, Go.binOp, Op.stringOp, ByteArray.toList_eq, sameBytes_eq h hE hs, concV, conc]
    · cases hc
  · rename_i b1 b2
    have e1 := eq_bool h hE hs ex
    have e2 := eq_bool h hE hs ey
    have hg : (eqGuard op t x y (.bool b1) (.bool b2)).run P w = .ok () w := by
      unfold eqGuard; cases op <;> simp
    split at hc
    · rename_i r1 sz by1 z1 za hr
      have hu := (hE.tys t _ hr).und
      simp only at hu
      have heq : (Op.equal t (.bool b1) (.bool b2)).run P w = .ok (b1 == b2) w := by
        exact run_equal_bool w t b1 b2 hu
      split at hc <;> first
        | (simp only [Option.some.injEq] at hc; subst hc
           exact goes_same h (by simp [execOp, ho, e1, e2, hg, Go.binOp, heq, concV, conc]) trivial)
        | cases hc
    · cases hc
  · rename_i i
    have e1 := eq_mref h hE hs ex
    have e2 : a.eval y = .map none := ey
    split at hc
    · rename_i r1 sz by1 k1 k2 z1 za hr
      have hu := (hE.tys t _ hr).und
      simp only at hu
      split at hc <;> first
        | (simp only [Option.some.injEq] at hc; subst hc
           have heq : (Op.equal t (.map (some (ρ i).1)) (.map none)).run P w = .ok false w := run_equal_map_nil w t _ _ _ hu
           have hg : (eqGuard .eql t x y (.map (some (ρ i).1)) (.map none)).run P w = .ok () w := by unfold eqGuard; simp
           exact goes_same h (by simp [execOp, ho, e1, e2, hg, Go.binOp, heq, concV, conc]) trivial)
        | cases hc
    · cases hc
  · cases hc

theorem bytesToString_run {i len eo : Nat} {cs : List AC} (hob : get (d :: B) i = some (.cells eo cs)) (hl : len ≤ cs.length) {l : List UInt8} (hb : bytesOfCells (cs.take len) = some l) :
    (Conv.bytesToString (.slice (some ⟨(ρ i).1, 0, none⟩) len (ρ i).2)).run P w = .ok (.string ⟨l.toArray⟩) w := by
  have hload := run_loadCells_list (P := P) w ⟨(ρ i).1, 0, none⟩ (concs ρ (cs.take len)) (fun j u hj => by
    simp only [concs, List.getElem?_map] at hj
    obtain ⟨c, hc, rfl⟩ := Option.map_eq_some_iff.1 hj
    have hj' : j < len := by
      rcases Nat.lt_or_ge j len with hl | hl
      · exact hl
      · rw [List.getElem?_take_eq_none hl] at hc; cases hc
    rw [List.getElem?_take_of_lt hj'] at hc
    rw [Addr.add_lit, Nat.zero_add]
    exact h.cell hob hc)
  have hlen : (concs ρ (cs.take len)).length = len := by rw [length_concs, List.length_take]; omega
  rw [hlen] at hload
  have hns : ∀ (cs : List AC) (l : List UInt8), bytesOfCells cs = some l → ∃ ns : List Int, concs ρ cs = ns.map (Value.int .u8) ∧ ∀ acc : List UInt8, ns.foldl (fun r n => r.push (UInt8.ofNat n.toNat)) (⟨acc.toArray⟩ : ByteArray) = ⟨(acc ++ l).toArray⟩ := by
    intro cs
    induction cs with
    | nil => intro l hb; simp only [bytesOfCells, Option.some.injEq] at hb; subst hb; exact ⟨[], rfl, fun acc => by simp⟩
    | cons c cs ih =>
      intro l hb
      unfold bytesOfCells at hb
      split at hb
      · rename_i hnil; cases hnil
      · rename_i m r hcons
        simp only [List.cons.injEq] at hcons
        obtain ⟨rfl, rfl⟩ := hcons
        split at hb
        · rename_i l' hl'
          simp only [Option.some.injEq] at hb; subst hb
          obtain ⟨ns, e1, e2⟩ := ih l' hl'
          refine ⟨m :: ns, by simp only [concs, List.map_cons, conc] at e1 ⊢; rw [e1], fun acc => ?_⟩
          have he : (⟨acc.toArray⟩ : ByteArray).push (UInt8.ofNat m.toNat) = ⟨(acc ++ [UInt8.ofNat m.toNat]).toArray⟩ := by
            rw [ByteArray.ext_iff]; simp
          simp only [List.foldl_cons]
          rw [he, e2]
          simp
        · cases hb
      · cases hb
  obtain ⟨ns, e1, e2⟩ := hns _ l hb
  rw [e1] at hload
  rw [run_bytesToString w _ _ _ ns hload]
  have := e2 []
  simp only [List.nil_append] at this
  have he : (ByteArray.empty : ByteArray) = ⟨([] : List UInt8).toArray⟩ := rfl
  rw [he, this]

theorem goes_convert {t1 t2 : Nat} {x : Operand} {u : AV} {c : AC} (ho : o.op = .convert t1 t2 x) (hx : val s x = some u) (hc : evConv E (d :: B) t1 t2 u = some c) : Goes P E B0 o a B d al n ρ w (.c c) d n := by
  obtain ⟨ex, kx⟩ := val_conc hs hx
  unfold evConv at hc
  split at hc
  · rename_i rs rd hrs hrd
    have hu1 := (hE.tys t1 rs hrs).und
    have hu2 := (hE.tys t2 rd hrd).und
    split at hc
    · rename_i k k' m hd
      rw [hd] at hu2
      simp only [Option.some.injEq] at hc; subst hc
      refine goes_same h ?_ trivial
      simp [execOp, ho, eq_int h hE hs ex, Go.convert, run_underlying hu1, run_underlying hu2, Conv.intToInt, concV, conc]
    · rename_i i len hd
      rw [hd] at hu2
      split at hc
      · rename_i e he
        rw [he] at hu1
        split at hc
        · rename_i r1 sz by1 z1 za hr
          have hu3 := (hE.tys e _ hr).und
          simp only at hu3
          split at hc
          · rename_i eo cs hob
            split at hc
            · rename_i hle
              split at hc
              · rename_i l hb
                simp only [Option.some.injEq] at hc; subst hc
                refine goes_same h ?_ trivial
                have hb' := bytesToString_run h hE hs (P := P) hob hle hb
                simp [execOp, ho, eq_sl h hE hs ex, Go.convert, run_underlying hu1, run_underlying hu2, run_underlying hu3, hb', concV, conc]
              · cases hc
            · cases hc
          · cases hc
        · cases hc
      · cases hc
    · rename_i hd
      rw [hd] at hu2
      split at hc
      · rename_i e he
        rw [he] at hu1
        split at hc
        · rename_i r1 sz by1 z1 za hr
          have hu3 := (hE.tys e _ hr).und
          simp only at hu3
          simp only [Option.some.injEq] at hc; subst hc
          refine goes_same h ?_ trivial
          have e0 : a.eval x = .slice none 0 0 := ex
          have he0 : (ByteArray.empty : ByteArray) = ⟨([] : List UInt8).toArray⟩ := rfl
          simp [execOp, ho, e0, Go.convert, run_underlying hu1, run_underlying hu2, run_underlying hu3, Conv.bytesToString, concV, conc, he0]
        · cases hc
      · cases hc
    · rename_i k m hd
      rw [hd] at hu2
      simp only [Option.some.injEq] at hc; subst hc
      refine goes_same h ?_ trivial
      simp [execOp, ho, eq_int h hE hs ex, Go.convert, run_underlying hu1, run_underlying hu2, Conv.intToString, concV, conc]
    · cases hc
  · cases hc

end
end Go.Proofs.YtdpielghjaehbaaGreat.Ev
