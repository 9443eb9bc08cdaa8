/- Calls known ahead, out of contracts: one new object; one object that changes. -/
import Derived.Test.YtdpielghjaehbaaGreatEc
set_option linter.unusedSectionVars false
set_option linter.unusedSimpArgs false
set_option linter.unusedVariables false
namespace Go.Proofs.YtdpielghjaehbaaGreat.Ev
open Go.RowKit

/-- Only new objects have come. -/
def Adds (n : Nat) (d d' : Seg) : Prop := ∃ δ, d' = δ ++ d ∧ ∀ p ∈ δ, n ≤ p.1

theorem Adds.refl (n : Nat) (d : Seg) : Adds n d d := ⟨[], rfl, by simp⟩
theorem Adds.cons {n j : Nat} {d d' : Seg} {o : Option AObj} (h : Adds n d d') (hj : n ≤ j) : Adds n d ((j, o) :: d') := by
  obtain ⟨δ, rfl, h1⟩ := h
  exact ⟨(j, o) :: δ, rfl, fun p hp => by rcases List.mem_cons.1 hp with rfl | hp; exact hj; exact h1 p hp⟩
theorem Adds.trans {n m : Nat} {d d1 d2 : Seg} (h : Adds n d d1) (k : Adds m d1 d2) (hn : n ≤ m) : Adds n d d2 := by
  obtain ⟨δ, rfl, h1⟩ := h
  obtain ⟨ε, rfl, h2⟩ := k
  exact ⟨ε ++ δ, by simp, fun p hp => by rcases List.mem_append.1 hp with hp | hp; exact Nat.le_trans hn (h2 p hp); exact h1 p hp⟩
theorem look_none {n i : Nat} : ∀ {δ : Seg}, (∀ p ∈ δ, n ≤ p.1) → i < n → look δ i = none
  | [], _, _ => rfl
  | (j, o) :: δ, h, hi => by
    have h1 : n ≤ j := h (j, o) (List.mem_cons_self ..)
    have h2 : (j == i) = false := by simp; omega
    simp only [look, h2]
    exact look_none (fun p hp => h p (List.mem_cons_of_mem _ hp)) hi
theorem Adds.keeps {n : Nat} {d d' : Seg} (h : Adds n d d') : Keeps d n d' := by
  obtain ⟨δ, rfl, h1⟩ := h
  intro i hi
  rw [get_append, look_none h1 hi]

/-- One object changes, over and over; new ones may come. -/
def Sets (j n : Nat) (d d' : Seg) : Prop := ∃ δ, d' = δ ++ d ∧ ∀ p ∈ δ, p.1 = j ∨ n ≤ p.1
theorem Sets.refl (j n : Nat) (d : Seg) : Sets j n d d := ⟨[], rfl, by simp⟩
theorem Sets.cons {j n k : Nat} {d d' : Seg} {o : Option AObj} (h : Sets j n d d') (hk : k = j ∨ n ≤ k) : Sets j n d ((k, o) :: d') := by
  obtain ⟨δ, rfl, h1⟩ := h
  exact ⟨(k, o) :: δ, rfl, fun p hp => by rcases List.mem_cons.1 hp with rfl | hp; exact hk; exact h1 p hp⟩
theorem Sets.trans {j n m : Nat} {d d1 d2 : Seg} (h : Sets j n d d1) (k : Sets j m d1 d2) (hn : n ≤ m) : Sets j n d d2 := by
  obtain ⟨δ, rfl, h1⟩ := h
  obtain ⟨ε, rfl, h2⟩ := k
  refine ⟨ε ++ δ, by simp, fun p hp => ?_⟩
  rcases List.mem_append.1 hp with hp | hp
  · rcases h2 p hp with h | h
    · exact .inl h
    · exact .inr (by omega)
  · exact h1 p hp
theorem Adds.sets {j n : Nat} {d d' : Seg} (h : Adds n d d') : Sets j n d d' := by
  obtain ⟨δ, rfl, h1⟩ := h
  exact ⟨δ, rfl, fun p hp => .inr (h1 p hp)⟩
theorem Sets.adds {j n : Nat} {d d' : Seg} (h : Sets j n d d') (hj : n ≤ j) : Adds n d d' := by
  obtain ⟨δ, rfl, h1⟩ := h
  exact ⟨δ, rfl, fun p hp => by rcases h1 p hp with h | h <;> omega⟩
theorem look_none' {j n i : Nat} : ∀ {δ : Seg}, (∀ p ∈ δ, p.1 = j ∨ n ≤ p.1) → i < n → i ≠ j → look δ i = none
  | [], _, _, _ => rfl
  | (k, o) :: δ, h, hi, hj => by
    have h1 : k = j ∨ n ≤ k := h (k, o) (List.mem_cons_self ..)
    have h2 : (k == i) = false := by simp; omega
    simp only [look, h2]
    exact look_none' (fun p hp => h p (List.mem_cons_of_mem _ hp)) hi hj
theorem Sets.keeps {j n : Nat} {d d' : Seg} (h : Sets j n d d') : KeepsBut j d n d' := by
  obtain ⟨δ, rfl, h1⟩ := h
  intro i hi hj
  rw [get_append, look_none' h1 hi hj]

/-- No number within. -/
def AObj.plain : AObj → Bool
  | .cells _ l => l.all AC.plain
  | _ => false

theorem plain_conc {r1 r2 : Rho} : ∀ {c : AC}, c.plain = true → conc r1 c = conc r2 c
  | .undef, _ | .bool _, _ | .int .., _ | .str _, _ | .sl0, _ | .mnil, _ | .raw _, _ => rfl

theorem plain_ok {al : Nat → Prop} : ∀ {c : AC}, c.plain = true → c.ok al
  | .undef, _ | .bool _, _ | .int .., _ | .str _, _ | .sl0, _ | .mnil, _ | .raw _, _ => trivial

theorem plain_okO {al : Nat → Prop} {o : AObj} (h : o.plain = true) : o.ok al := by
  cases o with
  | cells e l =>
    intro c hc
    exact plain_ok (List.all_eq_true.1 h c hc)
  | _ => cases h

theorem plain_blk {E : Env} {r1 r2 : Rho} {cap : Nat} {o : AObj} {blk : Obj} (h : o.plain = true) (hb : BlkIs E r1 cap o blk) : BlkIs E r2 cap o blk := by
  cases o with
  | cells e l =>
    obtain ⟨ex, h1, h2⟩ := hb
    have : concs r1 l = concs r2 l := List.map_congr_left fun c hc => plain_conc (List.all_eq_true.1 h c hc)
    exact ⟨ex, by rw [← this]; exact h1, h2⟩
  | _ => cases h

section
variable {P : Program} {E : Env} {B0 : Nat}

theorem step_new_below {δ d : Seg} {al al' : Nat → Prop} {n n' : Nat} {ρ ρ' : Rho} {w w' : World} (h : Step E B0 (In δ) ⟨[d], al, n, ρ, w⟩ ⟨[δ ++ d], al', n', ρ', w'⟩) (hδ : ∀ p ∈ δ, n ≤ p.1) : Below w.heap.size w w' :=
  ⟨h.misc.1, h.misc.2.1, h.misc.2.2, h.size, fun b hb => h.frame b hb fun i hi hn => by
    obtain ⟨o, ho⟩ := hi
    simp only at hn
    rw [look_none hδ hn] at ho
    cases ho⟩

/-- A call that makes one new row (and what nobody looks at), as known ahead; 'D0': what it must find below N0. -/
noncomputable def callFresh (f N0 : Nat) (D0 : Seg) (args : List AV) (len : Nat) (o : AObj) : CallF := by
  classical exact fun f' args' B d n => if f' = f ∧ args' = args ∧ N0 ≤ n ∧ ∀ i < N0, get (d :: B) i = get [D0] i then some (.c (.sl n len), (n, some o) :: d, n + 1) else none

theorem callFresh_eq {f N0 : Nat} {D0 : Seg} {args : List AV} {len : Nat} {o : AObj} {B : List Seg} {d : Seg} {n : Nat} (hn : N0 ≤ n) (h : ∀ i < N0, get (d :: B) i = get [D0] i) :
    callFresh f N0 D0 args len o f args B d n = some (.c (.sl n len), (n, some o) :: d, n + 1) := by
  exact if_pos ⟨rfl, rfl, hn, h⟩

theorem callFresh_ok {f N0 : Nat} {D0 : Seg} {args : List AV} {len : Nat} {o : AObj} (ho : o.plain = true)
    (hc : ∀ d n, N0 ≤ n → (∀ i < N0, get [d] i = get [D0] i) → CallsA P E B0 f args d n fun v d' n' => ∃ j, n ≤ j ∧ v = .c (.sl j len) ∧ Adds n d d' ∧ get [d'] j = some o) : CallOk P E B0 (callFresh f N0 D0 args len o) := by
  intro f' args' B d n v d' n' al ρ w hcall hrep hargs
  unfold callFresh at hcall
  split at hcall <;> cases hcall
  rename_i hcond
  obtain ⟨rfl, rfl, hn, hag⟩ := hcond
  obtain ⟨h1, h2⟩ := hc (d ++ B.flatten) n hn (fun i hi => (get_flatten d B i).trans (hag i hi)) al ρ w (hrep.congrH fun i => get_flatten d B i) hargs
  refine ⟨h1, h2.mono ?_⟩
  rintro e w' ⟨v, D, m, δ, ρ', al', ⟨j, hj, rfl, ⟨δ2, hD, hδ⟩, hget⟩, hd, hst, hok, rfl⟩
  have : δ2 = δ := List.append_cancel_right (hD.symm.trans hd)
  subst this
  subst hD
  have hb := step_new_below hst hδ
  obtain ⟨blk, hb1, hb2⟩ := hst.rep.obj j o hget
  have hnew : w.heap.size ≤ (ρ' j).1 := by
    rcases hst.newb j o hj hget with h | ⟨i, ⟨o', ho'⟩, hi, _⟩
    · exact h
    · simp only at hi
      rw [look_none hδ hi] at ho'
      cases ho'
  have hs := step_fresh hrep o (plain_okO ho) blk (ρ' j).2 (plain_blk ho hb2) (ρ' j).1 hnew hb hb1
  refine ⟨[(n, some o)], _, _, rfl, hs, .inr rfl, ?_⟩
  simp only [concV, conc, if_true]

/-- A call that changes one row alone, as known ahead. -/
noncomputable def callSet (f j k : Nat) (args : List AV) (oj ok o : AObj) (v : AC) : CallF := by
  classical exact fun f' args' B d n => if f' = f ∧ args' = args ∧ get (d :: B) j = some oj ∧ get (d :: B) k = some ok then some (.c v, (j, some o) :: d, n) else none

theorem callSet_eq {f j k : Nat} {args : List AV} {oj ok o : AObj} {v : AC} {B : List Seg} {d : Seg} {n : Nat} (hj : get (d :: B) j = some oj) (hk : get (d :: B) k = some ok) :
    callSet f j k args oj ok o v f args B d n = some (.c v, (j, some o) :: d, n) := by
  exact if_pos ⟨rfl, rfl, hj, hk⟩

theorem callSet_ok {f j k : Nat} {args : List AV} {oj ok o : AObj} {v : AC} (ho : o.plain = true) (hv : v.plain = true)
    (hc : ∀ d n, get [d] j = some oj → get [d] k = some ok → CallsA P E B0 f args d n fun v' d' n' => v' = .c v ∧ n' = n ∧ (∃ δ, d' = δ ++ d ∧ ∀ p ∈ δ, p.1 = j) ∧ get [d'] j = some o) : CallOk P E B0 (callSet f j k args oj ok o v) := by
  intro f' args' B d n v' d' n' al ρ w hcall hrep hargs
  unfold callSet at hcall
  split at hcall <;> cases hcall
  rename_i hcond
  obtain ⟨rfl, rfl, hj, hk⟩ := hcond
  have hrep' := hrep.congrH fun i => get_flatten d B i
  obtain ⟨h1, h2⟩ := hc (d ++ B.flatten) n ((get_flatten d B j).trans hj) ((get_flatten d B k).trans hk) al ρ w hrep' hargs
  refine ⟨h1, h2.mono ?_⟩
  rintro e w' ⟨v', D, m, δ, ρ', al', ⟨rfl, rfl, ⟨δ2, hD, hδ⟩, hget⟩, hd, hst, hok, rfl⟩
  have : δ2 = δ := List.append_cancel_right (hD.symm.trans hd)
  subst this
  subst hD
  have hnone : ∀ (δ : Seg) i, (∀ p ∈ δ, p.1 = j) → i ≠ j → look δ i = none := by
    intro δ
    induction δ with
    | nil => intro i _ _; rfl
    | cons p δ ih =>
      intro i hp hij
      obtain ⟨a, b⟩ := p
      have ha : a = j := hp (a, b) (List.mem_cons_self ..)
      have : (a == i) = false := by simp; omega
      simp only [look, this]
      exact ih i (fun q hq => hp q (List.mem_cons_of_mem _ hq)) hij
  have hge : ∀ i, get (((j, some o) :: d) :: B) i = get [δ2 ++ (d ++ B.flatten)] i := fun i => by
    rw [show ((j, some o) :: d) = [(j, some o)] ++ d from rfl, get_append]
    simp only [look, beq_iff_eq]
    by_cases hij : j = i
    · subst hij
      simp only [if_true]
      exact hget.symm
    · rw [if_neg hij, get_append, hnone δ2 i hδ (fun h => hij h.symm), get_flatten]
  have hin : ∀ i, In [(j, some o)] i ↔ i = j := by
    intro i
    unfold In
    simp only [look, beq_iff_eq]
    constructor
    · rintro ⟨o, ho⟩
      split at ho
      · rename_i hi; exact hi.symm
      · cases ho
    · rintro rfl; exact ⟨_, if_pos rfl⟩
  have hin2 : ∀ i, In δ2 i → i = j := fun i ⟨o', ho'⟩ => by
    by_cases hij : i = j
    · exact hij
    · rw [hnone δ2 i hδ hij] at ho'; cases ho'
  refine ⟨[(j, some o)], ρ', al', rfl, ?_, hok, rfl⟩
  have hr : Rep E B0 ⟨([(j, some o)] ++ d) :: B, al', m, ρ', w'⟩ := hst.rep.congrH hge
  exact
    { rep := hr
      al_eq := hst.al_eq
      n_le := hst.n_le
      agree := hst.agree
      kept := fun i hi => by
        have hij : i ≠ j := fun h => hi ((hin i).2 h)
        show get (([(j, some o)] ++ d) :: B) i = get (d :: B) i
        rw [get_append]
        simp only [look, beq_iff_eq]
        rw [if_neg (fun h => hij h.symm)]
      live := fun i hi _ => ⟨oj, by rw [(hin i).1 hi]; exact hj⟩
      ids := fun i hi => by
        rw [(hin i).1 hi]
        have := hr.lt j (hr.al j o ((hge j).trans hget)).1
        exact this
      size := hst.size
      frame := fun b hb hne => hst.frame b hb fun i hi hn => hne i ((hin i).2 (hin2 i hi)) hn
      newb := fun i o' hi ho' => by
        have := hr.lt i (hr.al i o' ho').1
        simp only at this hi; omega
      misc := hst.misc }

/-- A call that changes nothing, as known ahead. -/
noncomputable def callLook (f j k : Nat) (args : List AV) (oj ok : Option AObj) (v : AC) : CallF := by
  classical exact fun f' args' B d n => if f' = f ∧ args' = args ∧ get (d :: B) j = oj ∧ get (d :: B) k = ok then some (.c v, d, n) else none

theorem callLook_eq {f j k : Nat} {args : List AV} {oj ok : Option AObj} {v : AC} {B : List Seg} {d : Seg} {n : Nat} (hj : get (d :: B) j = oj) (hk : get (d :: B) k = ok) :
    callLook f j k args oj ok v f args B d n = some (.c v, d, n) := by
  exact if_pos ⟨rfl, rfl, hj, hk⟩

theorem callLook_ok {f j k : Nat} {args : List AV} {oj ok : Option AObj} {v : AC} (hv : v.plain = true)
    (hc : ∀ d n, get [d] j = oj → get [d] k = ok → CallsA P E B0 f args d n fun v' d' n' => v' = .c v ∧ Adds n d d') : CallOk P E B0 (callLook f j k args oj ok v) := by
  intro f' args' B d n v' d' n' al ρ w hcall hrep hargs
  unfold callLook at hcall
  split at hcall <;> cases hcall
  rename_i hcond
  obtain ⟨rfl, rfl, hj, hk⟩ := hcond
  obtain ⟨h1, h2⟩ := hc (d ++ B.flatten) n ((get_flatten d B j).trans hj) ((get_flatten d B k).trans hk) al ρ w (hrep.congrH fun i => get_flatten d B i) hargs
  refine ⟨h1, h2.mono ?_⟩
  rintro e w' ⟨v', D, m, δ, ρ', al', ⟨rfl, ⟨δ2, hD, hδ⟩⟩, hd, hst, hok, rfl⟩
  have : δ2 = δ := List.append_cancel_right (hD.symm.trans hd)
  subst this
  subst hD
  exact ⟨[], ρ, al, rfl, step_below hrep (step_new_below hst hδ), plain_ok hv, by simp only [concV, plain_conc hv (r1 := ρ') (r2 := ρ)]⟩

/-- One or the other. -/
def callOr (c1 c2 : CallF) : CallF := fun f args B d n => match c1 f args B d n with
  | some x => some x
  | none => c2 f args B d n

theorem callOr_ok {c1 c2 : CallF} (h1 : CallOk P E B0 c1) (h2 : CallOk P E B0 c2) : CallOk P E B0 (callOr c1 c2) := by
  intro f args B d n v d' n' al ρ w hc
  unfold callOr at hc
  split at hc
  · rename_i x hx
    rw [hc] at hx
    exact h1 f args B d n v d' n' al ρ w hx
  · exact h2 f args B d n v d' n' al ρ w hc

theorem callOr_l {c1 c2 : CallF} {f : Nat} {args : List AV} {B : List Seg} {d : Seg} {n : Nat} {x : AV × Seg × Nat} (h : c1 f args B d n = some x) : callOr c1 c2 f args B d n = some x := by
  simp only [callOr, h]
theorem callOr_r {c1 c2 : CallF} {f : Nat} {args : List AV} {B : List Seg} {d : Seg} {n : Nat} (h : c1 f args B d n = none) : callOr c1 c2 f args B d n = c2 f args B d n := by
  simp only [callOr, h]

theorem fresh_other {f f' N0 : Nat} {D0 : Seg} {args args' : List AV} {len : Nat} {o : AObj} {B : List Seg} {d : Seg} {n : Nat} (h : f' ≠ f) : callFresh f N0 D0 args len o f' args' B d n = none := by
  exact if_neg fun h' => h h'.1

end

def recsFrom (n : Nat) (rs : List Rec) : Prop := ∀ r ∈ rs, ∀ p ∈ r.δ, n ≤ p.1
theorem recs_nil {n : Nat} : recsFrom n [] = True := by simp [recsFrom]
theorem recs_cons {n lo hi : Nat} {v : AV} {dst : Option Nat} {rs : List Rec} : recsFrom n (⟨v, [], lo, hi, dst⟩ :: rs) = recsFrom n rs := by simp [recsFrom]
theorem recs_one {n lo hi i : Nat} {o : Option AObj} {v : AV} {dst : Option Nat} {rs : List Rec} : recsFrom n (⟨v, [(i, o)], lo, hi, dst⟩ :: rs) = (n ≤ i ∧ recsFrom n rs) := by simp [recsFrom]

theorem agree_heapAt {d : Seg} {n k : Nat} {bits : List Nat} {rs : List Rec} (h : ∀ r ∈ rs, ∀ p ∈ r.δ, n ≤ p.1) : ∀ i < n, get ([] :: heapAt bits [] [d] rs k) i = get [d] i := by
  intro i hi
  rw [get_heapAt]
  have key : ∀ (rs : List Rec) (k : Nat) (p : Nat → Bool), (∀ r ∈ rs, ∀ p ∈ r.δ, n ≤ p.1) → get (seen p rs k ++ [d]) i = get [d] i := by
    intro rs
    induction rs with
    | nil => intro k p _; rfl
    | cons r rs ih =>
      intro k p h
      have hrd := h r (List.mem_cons_self ..)
      have : look (if p (k - 1) then r.δ else tomb r.δ) i = none := by
        split
        · exact look_none hrd hi
        · exact look_none (fun q hq => by
            obtain ⟨y, hy, rfl⟩ := List.mem_map.1 hq
            exact hrd y hy) hi
      simp only [seen, List.cons_append, get, this]
      exact ih _ _ (fun r hr => h r (List.mem_cons_of_mem _ hr))
  exact key rs k _ h

end Go.Proofs.YtdpielghjaehbaaGreat.Ev

/- regletref06.join: marks of both. -/
set_option linter.unusedSectionVars false
set_option linter.unusedSimpArgs false
set_option linter.unusedVariables false
namespace Go.Proofs.YtdpielghjaehbaaGreat.Ev
open Go.RowKit

variable {mem : Nat → Nat → Option Value} {B0 : Nat}

def mksC (bs : List Bool) : List AC := bs.map .bool
def orL (A B : List Bool) : List Bool := List.zipWith (fun a b => a || b) A B
def newB (A B : List Bool) : Bool := (List.zipWith (fun a b => b && !a) A B).any id

theorem mksC_len (X : List Bool) : (mksC X).length = X.length := by simp [mksC]
theorem mksC_get {X : List Bool} {i : Nat} {b : Bool} (h : X[i]? = some b) : (mksC X)[i]? = some (.bool b) := by simp [mksC, h]
theorem mksC_plain (X : List Bool) (e : Nat) : (AObj.cells e (mksC X)).plain = true := by
  simp only [AObj.plain, mksC, List.all_map]
  exact List.all_eq_true.2 fun x _ => rfl

theorem splice_mks {X : List Bool} {i : Nat} {b : Bool} (h : i < X.length) : splice (mksC X) i [.bool b] = mksC (X.set i b) := by
  unfold splice mksC
  rw [List.set_eq_take_append_cons_drop, if_pos h]
  simp [List.map_take, List.map_drop]

theorem orL_len {A B : List Bool} (h : A.length = B.length) : (orL A B).length = A.length := by simp [orL, h]

theorem orL_get {A B : List Bool} {i : Nat} : (orL A B)[i]? = (match A[i]?, B[i]? with | some a, some b => some (a || b) | _, _ => none) := by
  unfold orL
  rw [List.getElem?_zipWith]
  cases A[i]? <;> cases B[i]? <;> rfl

/-- Marks of both up to i, behind it the first's. -/
def orTo (A B : List Bool) (i : Nat) : List Bool := orL (A.take i) (B.take i) ++ A.drop i

theorem orTo_zero (A B : List Bool) : orTo A B 0 = A := by simp [orTo, orL]
theorem orTo_end {A B : List Bool} (h : A.length = B.length) : orTo A B A.length = orL A B := by
  simp only [orTo, List.take_length, List.drop_length, List.append_nil]
  rw [h, List.take_length]
theorem orTo_pre {A B : List Bool} {i : Nat} (h : A.length = B.length) (hi : i ≤ A.length) : (orL (A.take i) (B.take i)).length = i := by
  rw [orL_len (by simp [h]), List.length_take]; omega
theorem orTo_len {A B : List Bool} {i : Nat} (h : A.length = B.length) (hi : i ≤ A.length) : (orTo A B i).length = A.length := by
  rw [orTo, List.length_append, orTo_pre h hi, List.length_drop]; omega
theorem orTo_get {A B : List Bool} {i : Nat} (h : A.length = B.length) (hi : i ≤ A.length) : (orTo A B i)[i]? = A[i]? := by
  rw [orTo, List.getElem?_append_right (by rw [orTo_pre h hi]; omega), orTo_pre h hi, Nat.sub_self, List.getElem?_drop]
  simp
theorem orTo_succ {A B : List Bool} {i : Nat} {a b : Bool} (h : A.length = B.length) (ha : A[i]? = some a) (hb : B[i]? = some b) : (orTo A B i).set i (a || b) = orTo A B (i + 1) := by
  obtain ⟨hi, hae⟩ := List.getElem?_eq_some_iff.1 ha
  have hp := orTo_pre h (Nat.le_of_lt hi)
  have hd : A.drop i = a :: A.drop (i + 1) := by
    rw [List.drop_eq_getElem_cons hi, hae]
  unfold orTo
  rw [List.set_append_right _ _ (by omega), hp, Nat.sub_self, hd, List.set_cons_zero, List.take_add_one, List.take_add_one, ha, hb]
  simp only [Option.toList_some]
  unfold orL
  rw [List.zipWith_append (by simp [h])]
  simp
theorem newB_succ {A B : List Bool} {i : Nat} {a b : Bool} (h : A.length = B.length) (ha : A[i]? = some a) (hb : B[i]? = some b) : newB (A.take (i + 1)) (B.take (i + 1)) = (newB (A.take i) (B.take i) || (b && !a)) := by
  unfold newB
  rw [List.take_add_one, List.take_add_one, ha, hb]
  simp only [Option.toList_some]
  rw [List.zipWith_append (by simp [h])]
  simp

theorem newB_true {A B : List Bool} (h : newB A B = true) : ∃ i : Nat, A[i]? = some false ∧ B[i]? = some true := by
  unfold newB at h
  rw [List.any_eq_true] at h
  obtain ⟨x, hx, hx2⟩ := h
  obtain ⟨i, hi⟩ := List.getElem?_of_mem hx
  rw [List.getElem?_zipWith] at hi
  split at hi
  · rename_i a b h1 h2
    simp only [Option.some.injEq] at hi
    subst hi
    simp only [id, Bool.and_eq_true, Bool.not_eq_true'] at hx2
    exact ⟨i, by rw [h1, hx2.2], by rw [h2, hx2.1]⟩
  · cases hi

theorem newB_false {A B : List Bool} (h : newB A B = false) (hl : A.length = B.length) : orL A B = A := by
  apply List.ext_getElem?
  intro i
  rw [orL_get]
  cases ha : A[i]? with
  | none => rfl
  | some a =>
    have hi := (List.getElem?_eq_some_iff.1 ha).1
    have hb : B[i]? = some B[i] := List.getElem?_eq_getElem (by omega)
    rw [hb]
    simp only [Option.some.injEq]
    cases a with
    | true => rfl
    | false =>
      cases hbi : B[i]'(by omega) with
      | false => rfl
      | true =>
        exfalso
        unfold newB at h
        rw [List.any_eq_false] at h
        refine h true (List.mem_of_getElem? (i := i) ?_) rfl
        rw [List.getElem?_zipWith, ha, hb, hbi]
        rfl

set_option maxRecDepth 20000 in
set_option maxHeartbeats 4000000 in
theorem join_ok {d : Seg} {n ja jb : Nat} {A Bs : List Bool} (ha : get [d] ja = some (.cells 4 (mksC A))) (hb : get [d] jb = some (.cells 4 (mksC Bs))) (hne : ja ≠ jb) (hlen : A.length = Bs.length) (hsz : A.length ≤ 100000) :
    CallsA Tryz.prog (lenv mem) B0 40 [.c (.sl ja A.length), .c (.sl jb A.length)] d n fun v d' n' => v = .c (.bool (newB A Bs)) ∧ n' = n ∧ (∃ δ, d' = δ ++ d ∧ ∀ p ∈ δ, p.1 = ja) ∧ get [d'] ja = some (.cells 4 (mksC (orL A Bs))) := by
  refine callsA_code lenv_ok none1_ok Tryz.func40 rfl (by decide) rfl rfl (by simp) fun hl _ Q hQ => ?_
  simp +decide -implicitDefEqProofs only [stp,code_seq,evWanted,evOp,val,absV,evBin,evConv,evBuiltin,cmpInt,vals,partsOf,isAggD,cellsOf,isAggV,Nat.reduceEqDiff,Nat.reduceLT,Nat.reduceBEq,Nat.reduceBNe,reduceCtorEq,if_true,if_false,reduceIte,forall_const,IntKind.bits,IntKind.signed,eq_self_iff_true,finalOf,resultOf,cellsGood,AC.isCell,senv_mem,lift, spliceAll,allFields,places,splice,List.take_zero,List.take_succ_cons,List.take_nil,List.drop_zero,List.drop_succ_cons,List.drop_nil,List.nil_append,List.append_nil,List.cons_append,List.all_cons,List.all_nil,Option.isSome_some,Nat.reduceAdd,Nat.reduceSub,Nat.reduceMul,Nat.reduceMod,Nat.reduceLeDiff,List.range,List.range.loop,List.map_cons,List.map_nil,pfind, Tryz.f40, lty3,lty4,lty5,lty9,lty22,lty33,lty25,lty34,lty23,lty36,lty40,lty98,lty96,lty93,lty95,lty54,lty38,lty31, lenv_mem, none1]
  refine code_loop lenv_ok none1_ok (fun q s d' n' => s.nt = 41 ∧ n' = n ∧ (∃ δ, d' = δ ++ d ∧ ∀ p ∈ δ, p.1 = ja) ∧ ∃ i : Nat, i + q = A.length ∧ s.get 0 = .c (.sl ja A.length) ∧ s.get 1 = .c (.sl jb A.length) ∧ s.get 5 = .c (.bool (newB (A.take i) (Bs.take i))) ∧ s.get 6 = .c (.int .i64 i) ∧
    get [d'] ja = some (.cells 4 (mksC (orTo A Bs i)))) A.length ?_ ?_
  · refine ⟨by simp only [nt_put], rfl, ⟨[], rfl, by simp⟩, 0, by omega, ?_⟩
    simp +decide -implicitDefEqProofs only [stp,code_seq,evWanted,evOp,val,absV,evBin,evConv,evBuiltin,cmpInt,vals,partsOf,isAggD,cellsOf,isAggV,Nat.reduceEqDiff,Nat.reduceLT,Nat.reduceBEq,Nat.reduceBNe,reduceCtorEq,if_true,if_false,reduceIte,forall_const,IntKind.bits,IntKind.signed,eq_self_iff_true,finalOf,resultOf,cellsGood,AC.isCell,senv_mem,lift]
    exact ⟨rfl, rfl, by rw [orTo_zero]; exact ha⟩
  · rintro q s d2 n2 ⟨hnt, rfl, ⟨δ, rfl, hδ⟩, i, hiq, g0, g1, g5, g6, hgj⟩ hl2 hs2 Q' hQ1 hQ2
    by_cases h1 : (i : Int) < A.length
    · have hil : i < A.length := by omega
      obtain ⟨a, ha1⟩ : ∃ a, A[i]? = some a := ⟨_, List.getElem?_eq_getElem hil⟩
      obtain ⟨b, hb1⟩ : ∃ b, Bs[i]? = some b := ⟨_, List.getElem?_eq_getElem (by omega)⟩
      have hgb : get [δ ++ d] jb = some (.cells 4 (mksC Bs)) := by
        have hno : look δ jb = none := by
          clear hgj hl2 hs2
          induction δ with
          | nil => rfl
          | cons p δ ih =>
            obtain ⟨k, o⟩ := p
            have hk : k = ja := hδ (k, o) (List.mem_cons_self ..)
            have : (k == jb) = false := by simp; omega
            simp only [look, this]
            exact ih fun q hq => hδ q (List.mem_cons_of_mem _ hq)
        rw [get_append, hno]; exact hb
      have hi0 : (0 : Int) ≤ i := by omega
      have hXl := orTo_len hlen (Nat.le_of_lt hil)
      have hXa := mksC_get ((orTo_get hlen (Nat.le_of_lt hil)).trans ha1)
      have hYb := mksC_get hb1
      have hst : ∀ x, splice (mksC (orTo A Bs i)) i [.bool x] = mksC ((orTo A Bs i).set i x) := fun x => splice_mks (by omega)
      have h2 : True := trivial
      cases hm : newB (A.take i) (Bs.take i) <;> rw [hm] at g5 <;> cases a <;> cases b
      · skip
        simp +decide -implicitDefEqProofs only [stp,code_seq,evWanted,evOp,val,absV,evBin,evConv,evBuiltin,cmpInt,vals,partsOf,isAggD,cellsOf,isAggV,Nat.reduceEqDiff,Nat.reduceLT,Nat.reduceBEq,Nat.reduceBNe,reduceCtorEq,if_true,if_false,reduceIte,forall_const,IntKind.bits,IntKind.signed,eq_self_iff_true,finalOf,resultOf,cellsGood,AC.isCell,senv_mem,lift, lty3,lty4,lty5,lty9,lty22,lty33,lty25,lty34,lty23,lty36,lty40,lty98,lty96,lty93,lty95,lty54,lty38,lty31, lenv_mem, none1, hnt, g0, g1, g5, g6, h1, h2, hi0, hgj, hgb, Int.toNat_natCast, hXa, hYb, hm, mksC_len, hXl, hil, hst, Bool.true_or, Bool.false_or, Bool.or_true, Bool.or_false, Nat.succ_le_of_lt hil]
        refine hQ1 (q - 1) _ _ _ (by omega) ⟨by simp only [nt_put, hnt], rfl, ⟨(ja, _) :: δ, rfl, fun p hp => by rcases List.mem_cons.1 hp with rfl | hp; rfl; exact hδ p hp⟩, i + 1, by omega, ?_⟩
        simp +decide -implicitDefEqProofs only [stp,code_seq,evWanted,evOp,val,absV,evBin,evConv,evBuiltin,cmpInt,vals,partsOf,isAggD,cellsOf,isAggV,Nat.reduceEqDiff,Nat.reduceLT,Nat.reduceBEq,Nat.reduceBNe,reduceCtorEq,if_true,if_false,reduceIte,forall_const,IntKind.bits,IntKind.signed,eq_self_iff_true,finalOf,resultOf,cellsGood,AC.isCell,senv_mem,lift, hnt, g0, g1]
        rw [wrap_succ (by omega), newB_succ hlen ha1 hb1, hm, ← orTo_succ hlen ha1 hb1]
        exact ⟨rfl, rfl, rfl⟩
      · skip
        simp +decide -implicitDefEqProofs only [stp,code_seq,evWanted,evOp,val,absV,evBin,evConv,evBuiltin,cmpInt,vals,partsOf,isAggD,cellsOf,isAggV,Nat.reduceEqDiff,Nat.reduceLT,Nat.reduceBEq,Nat.reduceBNe,reduceCtorEq,if_true,if_false,reduceIte,forall_const,IntKind.bits,IntKind.signed,eq_self_iff_true,finalOf,resultOf,cellsGood,AC.isCell,senv_mem,lift, lty3,lty4,lty5,lty9,lty22,lty33,lty25,lty34,lty23,lty36,lty40,lty98,lty96,lty93,lty95,lty54,lty38,lty31, lenv_mem, none1, hnt, g0, g1, g5, g6, h1, h2, hi0, hgj, hgb, Int.toNat_natCast, hXa, hYb, hm, mksC_len, hXl, hil, hst, Bool.true_or, Bool.false_or, Bool.or_true, Bool.or_false, Nat.succ_le_of_lt hil]
        refine hQ1 (q - 1) _ _ _ (by omega) ⟨by simp only [nt_put, hnt], rfl, ⟨(ja, _) :: δ, rfl, fun p hp => by rcases List.mem_cons.1 hp with rfl | hp; rfl; exact hδ p hp⟩, i + 1, by omega, ?_⟩
        simp +decide -implicitDefEqProofs only [stp,code_seq,evWanted,evOp,val,absV,evBin,evConv,evBuiltin,cmpInt,vals,partsOf,isAggD,cellsOf,isAggV,Nat.reduceEqDiff,Nat.reduceLT,Nat.reduceBEq,Nat.reduceBNe,reduceCtorEq,if_true,if_false,reduceIte,forall_const,IntKind.bits,IntKind.signed,eq_self_iff_true,finalOf,resultOf,cellsGood,AC.isCell,senv_mem,lift, hnt, g0, g1]
        rw [wrap_succ (by omega), newB_succ hlen ha1 hb1, hm, ← orTo_succ hlen ha1 hb1]
        exact ⟨rfl, rfl, rfl⟩
      · skip
        simp +decide -implicitDefEqProofs only [stp,code_seq,evWanted,evOp,val,absV,evBin,evConv,evBuiltin,cmpInt,vals,partsOf,isAggD,cellsOf,isAggV,Nat.reduceEqDiff,Nat.reduceLT,Nat.reduceBEq,Nat.reduceBNe,reduceCtorEq,if_true,if_false,reduceIte,forall_const,IntKind.bits,IntKind.signed,eq_self_iff_true,finalOf,resultOf,cellsGood,AC.isCell,senv_mem,lift, lty3,lty4,lty5,lty9,lty22,lty33,lty25,lty34,lty23,lty36,lty40,lty98,lty96,lty93,lty95,lty54,lty38,lty31, lenv_mem, none1, hnt, g0, g1, g5, g6, h1, h2, hi0, hgj, hgb, Int.toNat_natCast, hXa, hYb, hm, mksC_len, hXl, hil, hst, Bool.true_or, Bool.false_or, Bool.or_true, Bool.or_false, Nat.succ_le_of_lt hil]
        refine hQ1 (q - 1) _ _ _ (by omega) ⟨by simp only [nt_put, hnt], rfl, ⟨(ja, _) :: δ, rfl, fun p hp => by rcases List.mem_cons.1 hp with rfl | hp; rfl; exact hδ p hp⟩, i + 1, by omega, ?_⟩
        simp +decide -implicitDefEqProofs only [stp,code_seq,evWanted,evOp,val,absV,evBin,evConv,evBuiltin,cmpInt,vals,partsOf,isAggD,cellsOf,isAggV,Nat.reduceEqDiff,Nat.reduceLT,Nat.reduceBEq,Nat.reduceBNe,reduceCtorEq,if_true,if_false,reduceIte,forall_const,IntKind.bits,IntKind.signed,eq_self_iff_true,finalOf,resultOf,cellsGood,AC.isCell,senv_mem,lift, hnt, g0, g1]
        rw [wrap_succ (by omega), newB_succ hlen ha1 hb1, hm, ← orTo_succ hlen ha1 hb1]
        exact ⟨rfl, rfl, rfl⟩
      · skip
        simp +decide -implicitDefEqProofs only [stp,code_seq,evWanted,evOp,val,absV,evBin,evConv,evBuiltin,cmpInt,vals,partsOf,isAggD,cellsOf,isAggV,Nat.reduceEqDiff,Nat.reduceLT,Nat.reduceBEq,Nat.reduceBNe,reduceCtorEq,if_true,if_false,reduceIte,forall_const,IntKind.bits,IntKind.signed,eq_self_iff_true,finalOf,resultOf,cellsGood,AC.isCell,senv_mem,lift, lty3,lty4,lty5,lty9,lty22,lty33,lty25,lty34,lty23,lty36,lty40,lty98,lty96,lty93,lty95,lty54,lty38,lty31, lenv_mem, none1, hnt, g0, g1, g5, g6, h1, h2, hi0, hgj, hgb, Int.toNat_natCast, hXa, hYb, hm, mksC_len, hXl, hil, hst, Bool.true_or, Bool.false_or, Bool.or_true, Bool.or_false, Nat.succ_le_of_lt hil]
        refine hQ1 (q - 1) _ _ _ (by omega) ⟨by simp only [nt_put, hnt], rfl, ⟨(ja, _) :: δ, rfl, fun p hp => by rcases List.mem_cons.1 hp with rfl | hp; rfl; exact hδ p hp⟩, i + 1, by omega, ?_⟩
        simp +decide -implicitDefEqProofs only [stp,code_seq,evWanted,evOp,val,absV,evBin,evConv,evBuiltin,cmpInt,vals,partsOf,isAggD,cellsOf,isAggV,Nat.reduceEqDiff,Nat.reduceLT,Nat.reduceBEq,Nat.reduceBNe,reduceCtorEq,if_true,if_false,reduceIte,forall_const,IntKind.bits,IntKind.signed,eq_self_iff_true,finalOf,resultOf,cellsGood,AC.isCell,senv_mem,lift, hnt, g0, g1]
        rw [wrap_succ (by omega), newB_succ hlen ha1 hb1, hm, ← orTo_succ hlen ha1 hb1]
        exact ⟨rfl, rfl, rfl⟩
      · skip
        simp +decide -implicitDefEqProofs only [stp,code_seq,evWanted,evOp,val,absV,evBin,evConv,evBuiltin,cmpInt,vals,partsOf,isAggD,cellsOf,isAggV,Nat.reduceEqDiff,Nat.reduceLT,Nat.reduceBEq,Nat.reduceBNe,reduceCtorEq,if_true,if_false,reduceIte,forall_const,IntKind.bits,IntKind.signed,eq_self_iff_true,finalOf,resultOf,cellsGood,AC.isCell,senv_mem,lift, lty3,lty4,lty5,lty9,lty22,lty33,lty25,lty34,lty23,lty36,lty40,lty98,lty96,lty93,lty95,lty54,lty38,lty31, lenv_mem, none1, hnt, g0, g1, g5, g6, h1, h2, hi0, hgj, hgb, Int.toNat_natCast, hXa, hYb, hm, mksC_len, hXl, hil, hst, Bool.true_or, Bool.false_or, Bool.or_true, Bool.or_false, Nat.succ_le_of_lt hil]
        refine hQ1 (q - 1) _ _ _ (by omega) ⟨by simp only [nt_put, hnt], rfl, ⟨(ja, _) :: δ, rfl, fun p hp => by rcases List.mem_cons.1 hp with rfl | hp; rfl; exact hδ p hp⟩, i + 1, by omega, ?_⟩
        simp +decide -implicitDefEqProofs only [stp,code_seq,evWanted,evOp,val,absV,evBin,evConv,evBuiltin,cmpInt,vals,partsOf,isAggD,cellsOf,isAggV,Nat.reduceEqDiff,Nat.reduceLT,Nat.reduceBEq,Nat.reduceBNe,reduceCtorEq,if_true,if_false,reduceIte,forall_const,IntKind.bits,IntKind.signed,eq_self_iff_true,finalOf,resultOf,cellsGood,AC.isCell,senv_mem,lift, hnt, g0, g1]
        rw [wrap_succ (by omega), newB_succ hlen ha1 hb1, hm, ← orTo_succ hlen ha1 hb1]
        exact ⟨rfl, rfl, rfl⟩
      · skip
        simp +decide -implicitDefEqProofs only [stp,code_seq,evWanted,evOp,val,absV,evBin,evConv,evBuiltin,cmpInt,vals,partsOf,isAggD,cellsOf,isAggV,Nat.reduceEqDiff,Nat.reduceLT,Nat.reduceBEq,Nat.reduceBNe,reduceCtorEq,if_true,if_false,reduceIte,forall_const,IntKind.bits,IntKind.signed,eq_self_iff_true,finalOf,resultOf,cellsGood,AC.isCell,senv_mem,lift, lty3,lty4,lty5,lty9,lty22,lty33,lty25,lty34,lty23,lty36,lty40,lty98,lty96,lty93,lty95,lty54,lty38,lty31, lenv_mem, none1, hnt, g0, g1, g5, g6, h1, h2, hi0, hgj, hgb, Int.toNat_natCast, hXa, hYb, hm, mksC_len, hXl, hil, hst, Bool.true_or, Bool.false_or, Bool.or_true, Bool.or_false, Nat.succ_le_of_lt hil]
        refine hQ1 (q - 1) _ _ _ (by omega) ⟨by simp only [nt_put, hnt], rfl, ⟨(ja, _) :: δ, rfl, fun p hp => by rcases List.mem_cons.1 hp with rfl | hp; rfl; exact hδ p hp⟩, i + 1, by omega, ?_⟩
        simp +decide -implicitDefEqProofs only [stp,code_seq,evWanted,evOp,val,absV,evBin,evConv,evBuiltin,cmpInt,vals,partsOf,isAggD,cellsOf,isAggV,Nat.reduceEqDiff,Nat.reduceLT,Nat.reduceBEq,Nat.reduceBNe,reduceCtorEq,if_true,if_false,reduceIte,forall_const,IntKind.bits,IntKind.signed,eq_self_iff_true,finalOf,resultOf,cellsGood,AC.isCell,senv_mem,lift, hnt, g0, g1]
        rw [wrap_succ (by omega), newB_succ hlen ha1 hb1, hm, ← orTo_succ hlen ha1 hb1]
        exact ⟨rfl, rfl, rfl⟩
      · skip
        simp +decide -implicitDefEqProofs only [stp,code_seq,evWanted,evOp,val,absV,evBin,evConv,evBuiltin,cmpInt,vals,partsOf,isAggD,cellsOf,isAggV,Nat.reduceEqDiff,Nat.reduceLT,Nat.reduceBEq,Nat.reduceBNe,reduceCtorEq,if_true,if_false,reduceIte,forall_const,IntKind.bits,IntKind.signed,eq_self_iff_true,finalOf,resultOf,cellsGood,AC.isCell,senv_mem,lift, lty3,lty4,lty5,lty9,lty22,lty33,lty25,lty34,lty23,lty36,lty40,lty98,lty96,lty93,lty95,lty54,lty38,lty31, lenv_mem, none1, hnt, g0, g1, g5, g6, h1, h2, hi0, hgj, hgb, Int.toNat_natCast, hXa, hYb, hm, mksC_len, hXl, hil, hst, Bool.true_or, Bool.false_or, Bool.or_true, Bool.or_false, Nat.succ_le_of_lt hil]
        refine hQ1 (q - 1) _ _ _ (by omega) ⟨by simp only [nt_put, hnt], rfl, ⟨(ja, _) :: δ, rfl, fun p hp => by rcases List.mem_cons.1 hp with rfl | hp; rfl; exact hδ p hp⟩, i + 1, by omega, ?_⟩
        simp +decide -implicitDefEqProofs only [stp,code_seq,evWanted,evOp,val,absV,evBin,evConv,evBuiltin,cmpInt,vals,partsOf,isAggD,cellsOf,isAggV,Nat.reduceEqDiff,Nat.reduceLT,Nat.reduceBEq,Nat.reduceBNe,reduceCtorEq,if_true,if_false,reduceIte,forall_const,IntKind.bits,IntKind.signed,eq_self_iff_true,finalOf,resultOf,cellsGood,AC.isCell,senv_mem,lift, hnt, g0, g1]
        rw [wrap_succ (by omega), newB_succ hlen ha1 hb1, hm, ← orTo_succ hlen ha1 hb1]
        exact ⟨rfl, rfl, rfl⟩
      · skip
        simp +decide -implicitDefEqProofs only [stp,code_seq,evWanted,evOp,val,absV,evBin,evConv,evBuiltin,cmpInt,vals,partsOf,isAggD,cellsOf,isAggV,Nat.reduceEqDiff,Nat.reduceLT,Nat.reduceBEq,Nat.reduceBNe,reduceCtorEq,if_true,if_false,reduceIte,forall_const,IntKind.bits,IntKind.signed,eq_self_iff_true,finalOf,resultOf,cellsGood,AC.isCell,senv_mem,lift, lty3,lty4,lty5,lty9,lty22,lty33,lty25,lty34,lty23,lty36,lty40,lty98,lty96,lty93,lty95,lty54,lty38,lty31, lenv_mem, none1, hnt, g0, g1, g5, g6, h1, h2, hi0, hgj, hgb, Int.toNat_natCast, hXa, hYb, hm, mksC_len, hXl, hil, hst, Bool.true_or, Bool.false_or, Bool.or_true, Bool.or_false, Nat.succ_le_of_lt hil]
        refine hQ1 (q - 1) _ _ _ (by omega) ⟨by simp only [nt_put, hnt], rfl, ⟨(ja, _) :: δ, rfl, fun p hp => by rcases List.mem_cons.1 hp with rfl | hp; rfl; exact hδ p hp⟩, i + 1, by omega, ?_⟩
        simp +decide -implicitDefEqProofs only [stp,code_seq,evWanted,evOp,val,absV,evBin,evConv,evBuiltin,cmpInt,vals,partsOf,isAggD,cellsOf,isAggV,Nat.reduceEqDiff,Nat.reduceLT,Nat.reduceBEq,Nat.reduceBNe,reduceCtorEq,if_true,if_false,reduceIte,forall_const,IntKind.bits,IntKind.signed,eq_self_iff_true,finalOf,resultOf,cellsGood,AC.isCell,senv_mem,lift, hnt, g0, g1]
        rw [wrap_succ (by omega), newB_succ hlen ha1 hb1, hm, ← orTo_succ hlen ha1 hb1]
        exact ⟨rfl, rfl, rfl⟩
    · simp +decide -implicitDefEqProofs only [stp,code_seq,evWanted,evOp,val,absV,evBin,evConv,evBuiltin,cmpInt,vals,partsOf,isAggD,cellsOf,isAggV,Nat.reduceEqDiff,Nat.reduceLT,Nat.reduceBEq,Nat.reduceBNe,reduceCtorEq,if_true,if_false,reduceIte,forall_const,IntKind.bits,IntKind.signed,eq_self_iff_true,finalOf,resultOf,cellsGood,AC.isCell,senv_mem,lift, spliceAll,allFields,places,splice,List.take_zero,List.take_succ_cons,List.take_nil,List.drop_zero,List.drop_succ_cons,List.drop_nil,List.nil_append,List.append_nil,List.cons_append,List.all_cons,List.all_nil,Option.isSome_some,Nat.reduceAdd,Nat.reduceSub,Nat.reduceMul,Nat.reduceMod,Nat.reduceLeDiff,List.range,List.range.loop,List.map_cons,List.map_nil,pfind, lty3,lty4,lty5,lty9,lty22,lty33,lty25,lty34,lty23,lty36,lty40,lty98,lty96,lty93,lty95,lty54,lty38,lty31, lenv_mem, none1, hnt, g0, g1, g5, g6, h1]
      refine hQ2 _ _ _ _ (by simp) ?_
      have hi : i = A.length := by omega
      subst hi
      simp +decide -implicitDefEqProofs only [stp,code_seq,evWanted,evOp,val,absV,evBin,evConv,evBuiltin,cmpInt,vals,partsOf,isAggD,cellsOf,isAggV,Nat.reduceEqDiff,Nat.reduceLT,Nat.reduceBEq,Nat.reduceBNe,reduceCtorEq,if_true,if_false,reduceIte,forall_const,IntKind.bits,IntKind.signed,eq_self_iff_true,finalOf,resultOf,cellsGood,AC.isCell,senv_mem,lift, spliceAll,allFields,places,splice,List.take_zero,List.take_succ_cons,List.take_nil,List.drop_zero,List.drop_succ_cons,List.drop_nil,List.nil_append,List.append_nil,List.cons_append,List.all_cons,List.all_nil,Option.isSome_some,Nat.reduceAdd,Nat.reduceSub,Nat.reduceMul,Nat.reduceMod,Nat.reduceLeDiff,List.range,List.range.loop,List.map_cons,List.map_nil,pfind, lty3,lty4,lty5,lty9,lty22,lty33,lty25,lty34,lty23,lty36,lty40,lty98,lty96,lty93,lty95,lty54,lty38,lty31, lenv_mem, none1, hnt, g0, g1, g5, g6]
      refine hQ _ _ _ _ (.c (.bool (newB A Bs))) (by simp) ?_ ⟨rfl, rfl, ⟨δ, rfl, hδ⟩, by rw [hgj, orTo_end hlen]⟩
      simp +decide -implicitDefEqProofs only [stp,code_seq,evWanted,evOp,val,absV,evBin,evConv,evBuiltin,cmpInt,vals,partsOf,isAggD,cellsOf,isAggV,Nat.reduceEqDiff,Nat.reduceLT,Nat.reduceBEq,Nat.reduceBNe,reduceCtorEq,if_true,if_false,reduceIte,forall_const,IntKind.bits,IntKind.signed,eq_self_iff_true,finalOf,resultOf,cellsGood,AC.isCell,senv_mem,lift, Tryz.f40, hnt]
      rw [List.take_length, hlen, List.take_length]

end Go.Proofs.YtdpielghjaehbaaGreat.Ev

/- regletref06: letters; do these bytes stand there? -/
set_option linter.unusedSectionVars false
set_option linter.unusedSimpArgs false
set_option linter.unusedVariables false
namespace Go.Proofs.YtdpielghjaehbaaGreat.Ev
open Go.RowKit

variable {mem : Nat → Nat → Option Value} {B0 : Nat}

theorem lower_ok (b : Int) (hb0 : 0 ≤ b) (hb : b < 256) : PureA Tryz.prog (lenv mem) B0 87 [.c (.int .u8 b)] (.c (.int .u8 (smallI b))) := by
  intro d n
  refine callsA_code lenv_ok none1_ok Tryz.func87 rfl (by decide) rfl rfl (by simp) fun hl ha Q hQ => ?_
  by_cases h1 : b ≥ 65
  · by_cases h2 : b ≤ 90
    · simp -implicitDefEqProofs only [stp,code_seq,evWanted,evOp,val,absV,evBin,evConv,evBuiltin,cmpInt,vals,partsOf,isAggD,cellsOf,isAggV,Nat.reduceEqDiff,Nat.reduceLT,Nat.reduceBEq,Nat.reduceBNe,reduceCtorEq,if_true,if_false,reduceIte,forall_const,IntKind.bits,IntKind.signed,eq_self_iff_true,finalOf,resultOf,cellsGood,AC.isCell,senv_mem,lift, Tryz.f87, h1, h2]
      refine hQ _ _ _ _ (.c (.int .u8 (smallI b))) (.inr rfl) ?_ ⟨rfl, rfl, rfl⟩
      simp -implicitDefEqProofs only [stp,code_seq,evWanted,evOp,val,absV,evBin,evConv,evBuiltin,cmpInt,vals,partsOf,isAggD,cellsOf,isAggV,Nat.reduceEqDiff,Nat.reduceLT,Nat.reduceBEq,Nat.reduceBNe,reduceCtorEq,if_true,if_false,reduceIte,forall_const,IntKind.bits,IntKind.signed,eq_self_iff_true,finalOf,resultOf,cellsGood,AC.isCell,senv_mem,lift, Tryz.f87]
      rw [smallI, if_pos ⟨h1, h2⟩, IntKind.wrap_u8]
      congr 3
      omega
    · simp -implicitDefEqProofs only [stp,code_seq,evWanted,evOp,val,absV,evBin,evConv,evBuiltin,cmpInt,vals,partsOf,isAggD,cellsOf,isAggV,Nat.reduceEqDiff,Nat.reduceLT,Nat.reduceBEq,Nat.reduceBNe,reduceCtorEq,if_true,if_false,reduceIte,forall_const,IntKind.bits,IntKind.signed,eq_self_iff_true,finalOf,resultOf,cellsGood,AC.isCell,senv_mem,lift, Tryz.f87, h1, h2]
      refine hQ _ _ _ _ (.c (.int .u8 (smallI b))) (.inr rfl) ?_ ⟨rfl, rfl, rfl⟩
      simp -implicitDefEqProofs only [stp,code_seq,evWanted,evOp,val,absV,evBin,evConv,evBuiltin,cmpInt,vals,partsOf,isAggD,cellsOf,isAggV,Nat.reduceEqDiff,Nat.reduceLT,Nat.reduceBEq,Nat.reduceBNe,reduceCtorEq,if_true,if_false,reduceIte,forall_const,IntKind.bits,IntKind.signed,eq_self_iff_true,finalOf,resultOf,cellsGood,AC.isCell,senv_mem,lift, Tryz.f87]
      rw [smallI, if_neg (fun x => h2 x.2)]
  · simp -implicitDefEqProofs only [stp,code_seq,evWanted,evOp,val,absV,evBin,evConv,evBuiltin,cmpInt,vals,partsOf,isAggD,cellsOf,isAggV,Nat.reduceEqDiff,Nat.reduceLT,Nat.reduceBEq,Nat.reduceBNe,reduceCtorEq,if_true,if_false,reduceIte,forall_const,IntKind.bits,IntKind.signed,eq_self_iff_true,finalOf,resultOf,cellsGood,AC.isCell,senv_mem,lift, Tryz.f87, h1]
    refine hQ _ _ _ _ (.c (.int .u8 (smallI b))) (.inr rfl) ?_ ⟨rfl, rfl, rfl⟩
    simp -implicitDefEqProofs only [stp,code_seq,evWanted,evOp,val,absV,evBin,evConv,evBuiltin,cmpInt,vals,partsOf,isAggD,cellsOf,isAggV,Nat.reduceEqDiff,Nat.reduceLT,Nat.reduceBEq,Nat.reduceBNe,reduceCtorEq,if_true,if_false,reduceIte,forall_const,IntKind.bits,IntKind.signed,eq_self_iff_true,finalOf,resultOf,cellsGood,AC.isCell,senv_mem,lift, Tryz.f87]
    rw [smallI, if_neg (fun x => h1 x.1)]

/-- The function lower, known ahead. -/
def callW : CallF := fun f args _ d n => match args with
  | [.c (.int .u8 b)] => if f = 87 ∧ 0 ≤ b ∧ b < 256 then some (.c (.int .u8 (smallI b)), d, n) else none
  | _ => none

theorem callW_ok : CallOk Tryz.prog (lenv mem) B0 callW := pure_ok fun f args B d n v d' n' h => by
  unfold callW at h
  split at h
  · split at h <;> cases h
    rename_i hc
    obtain ⟨rfl, h0, h1⟩ := hc
    exact ⟨rfl, rfl, lower_ok _ h0 h1⟩
  · cases h

theorem sb_refl : ∀ (x : List UInt8), sameBytes x x = true
  | [] => rfl
  | c :: x => by simp [sameBytes, sb_refl x]

theorem preB_iff {x y : List UInt8} : preB x y = true ↔ y <+: x := by
  unfold preB
  rw [Bool.and_eq_true, decide_eq_true_eq, List.prefix_iff_eq_take]
  constructor
  · rintro ⟨_, h⟩
    exact (sb_eq h).symm
  · intro h
    refine ⟨?_, by rw [← h]; exact sb_refl _⟩
    have := congrArg List.length h
    rw [List.length_take] at this
    omega

theorem pre_snoc {p x : List UInt8} {c : UInt8} (h : p <+: x) : p ++ [c] <+: x ↔ x[p.length]? = some c := by
  obtain ⟨r, rfl⟩ := h
  rw [List.prefix_append_right_inj, List.getElem?_append_right (Nat.le_refl _), Nat.sub_self]
  cases r with
  | nil => simp
  | cons b r => simp [List.cons_prefix_cons, eq_comm]

theorem u8s_snoc {u : List Int} {i : Nat} {z : Int} (h : u[i]? = some z) : u8s (u.take (i + 1)) = u8s (u.take i) ++ [UInt8.ofNat z.toNat] := by
  unfold u8s
  rw [List.take_add_one, h]
  simp

theorem u8s_len {u : List Int} {i : Nat} (h : i ≤ u.length) : (u8s (u.take i)).length = i := by
  unfold u8s
  rw [List.length_map, List.length_take]; omega

theorem u8_eq {c : UInt8} {z : Int} (h0 : 0 ≤ z) (h1 : z < 256) : c = UInt8.ofNat z.toNat ↔ (c.toNat : Int) = z := by
  constructor
  · rintro rfl
    have : (UInt8.ofNat z.toNat).toNat = z.toNat % 256 := by simp
    omega
  · intro h
    apply UInt8.toNat_inj.1
    have : (UInt8.ofNat z.toNat).toNat = z.toNat % 256 := by simp
    omega

/-- The state of the document's sense. -/
def SR (d : Seg) (ix : Nat) (G : AC) (s : List UInt8) (utf : Bool) (T : AC) : Prop := get [d] ix = some (.cells 95 [G, .str s, .bool utf, T])

/-- Do they stand there? -/
def atB (s : List UInt8) (u : List Int) (k : Nat) : Bool := decide (0 < (u.length : Int)) && preB (s.drop k) (u8s u)

set_option maxRecDepth 20000 in
set_option maxHeartbeats 4000000 in
theorem at_ok {d : Seg} {n ix k : Nat} {G TT y : AC} {s : List UInt8} {utf : Bool} {u : List Int} (hx1 : SR d ix G s utf TT) (hy : IntIn d y u) (hu : ∀ z ∈ u, 0 ≤ z ∧ z < 256) (hk : k ≤ s.length) (hs0 : s.length < 1000000) (hul : u.length ≤ 1000) :
    CallsA Tryz.prog (lenv mem) B0 89 [.c (.ptr ix 0), .c y, .c (.int .i64 k)] d n fun v d' n' => v = .c (.bool (atB s u k)) ∧ d' = d ∧ n' = n := by
  refine callsA_code lenv_ok none1_ok Tryz.func89 rfl (by decide) rfl rfl (by simp) fun hl _ Q hQ => ?_
  unfold SR at hx1
  simp +decide -implicitDefEqProofs only [stp,code_seq,evWanted,evOp,val,absV,evBin,evConv,evBuiltin,cmpInt,vals,partsOf,isAggD,cellsOf,isAggV,Nat.reduceEqDiff,Nat.reduceLT,Nat.reduceBEq,Nat.reduceBNe,reduceCtorEq,if_true,if_false,reduceIte,forall_const,IntKind.bits,IntKind.signed,eq_self_iff_true,finalOf,resultOf,cellsGood,AC.isCell,senv_mem,lift, spliceAll,allFields,places,splice,List.take_zero,List.take_succ_cons,List.take_nil,List.drop_zero,List.drop_succ_cons,List.drop_nil,List.nil_append,List.append_nil,List.cons_append,List.all_cons,List.all_nil,Option.isSome_some,Nat.reduceAdd,Nat.reduceSub,Nat.reduceMul,Nat.reduceMod,Nat.reduceLeDiff,List.range,List.range.loop,List.map_cons,List.map_nil,pfind, Tryz.f89, lty3,lty4,lty5,lty9,lty22,lty33,lty25,lty34,lty23,lty36,lty40,lty98,lty96,lty93,lty95,lty54,lty38,lty31, lenv_mem, none1]
  refine code_loop lenv_ok none1_ok (fun q s' d' n' => s'.nt = 42 ∧ d' = d ∧ n' = n ∧ ∃ i : Nat, i + q = u.length ∧ s'.get 0 = .c (.ptr ix 0) ∧ s'.get 1 = .c y ∧ s'.get 2 = .c (.int .i64 k) ∧ s'.get 7 = .c (.int .i64 i) ∧ u8s (u.take i) <+: s.drop k) u.length ?_ ?_
  · refine ⟨by simp only [nt_put], rfl, rfl, 0, by omega, ?_⟩
    simp +decide -implicitDefEqProofs only [stp,code_seq,evWanted,evOp,val,absV,evBin,evConv,evBuiltin,cmpInt,vals,partsOf,isAggD,cellsOf,isAggV,Nat.reduceEqDiff,Nat.reduceLT,Nat.reduceBEq,Nat.reduceBNe,reduceCtorEq,if_true,if_false,reduceIte,forall_const,IntKind.bits,IntKind.signed,eq_self_iff_true,finalOf,resultOf,cellsGood,AC.isCell,senv_mem,lift]
    exact ⟨rfl, by simp [u8s]⟩
  · rintro q sl _ _ ⟨hnt, rfl, rfl, i, hiq, g0, g1, g2, g7, hp⟩ hl2 hs2 Q' hQ1 hQ2
    have hlen : (u8s u).length = u.length := by simp [u8s]
    by_cases h1 : (i : Int) < u.length
    · have hil : i < u.length := by omega
      rcases hy with ⟨rfl, rfl⟩ | ⟨hne, j, rfl, hj⟩
      · simp at hil
      obtain ⟨z, hz⟩ : ∃ z, u[i]? = some z := ⟨_, List.getElem?_eq_getElem hil⟩
      have hzc : (intsC u)[i]? = some (.int .i64 z) := by simp [intsC, hz]
      have hzb := hu z (List.mem_of_getElem? hz)
      have hi0 : (0 : Int) ≤ i := by omega
      have hw : IntKind.i64.wrap ((k : Int) + (i : Int)) = ((k + i : Nat) : Int) := by rw [wrap_id (by omega) (by omega)]; rfl
      have hsn := u8s_snoc hz
      have htl := u8s_len (Nat.le_of_lt hil)
      have hmono : u8s (u.take (i + 1)) <+: u8s u := by
        unfold u8s
        exact List.IsPrefix.map _ (List.take_prefix _ _)
      have hps := pre_snoc (c := UInt8.ofNat z.toNat) hp
      rw [← hsn, htl, List.getElem?_drop] at hps
      by_cases h2 : ((k + i : Nat) : Int) ≥ s.length
      · have hno : atB s u k = false := by
          unfold atB
          rw [Bool.and_eq_false_iff]
          right
          rw [Bool.eq_false_iff]
          intro h
          have := hps.1 (hmono.trans (preB_iff.1 h))
          rw [List.getElem?_eq_none (by omega)] at this
          cases this
        have h3 : True := trivial
        simp +decide -implicitDefEqProofs only [stp,code_seq,evWanted,evOp,val,absV,evBin,evConv,evBuiltin,cmpInt,vals,partsOf,isAggD,cellsOf,isAggV,Nat.reduceEqDiff,Nat.reduceLT,Nat.reduceBEq,Nat.reduceBNe,reduceCtorEq,if_true,if_false,reduceIte,forall_const,IntKind.bits,IntKind.signed,eq_self_iff_true,finalOf,resultOf,cellsGood,AC.isCell,senv_mem,lift, spliceAll,allFields,places,splice,List.take_zero,List.take_succ_cons,List.take_nil,List.drop_zero,List.drop_succ_cons,List.drop_nil,List.nil_append,List.append_nil,List.cons_append,List.all_cons,List.all_nil,Option.isSome_some,Nat.reduceAdd,Nat.reduceSub,Nat.reduceMul,Nat.reduceMod,Nat.reduceLeDiff,List.range,List.range.loop,List.map_cons,List.map_nil,pfind, lty3,lty4,lty5,lty9,lty22,lty33,lty25,lty34,lty23,lty36,lty40,lty98,lty96,lty93,lty95,lty54,lty38,lty31, lenv_mem, none1, hnt, g0, g1, g2, g7, h1]
        apply code_drawn lenv_ok none1_ok (by decide) _ (by rfl)
        · simp +decide -implicitDefEqProofs only [stp,code_seq,evWanted,evOp,val,absV,evBin,evConv,evBuiltin,cmpInt,vals,partsOf,isAggD,cellsOf,isAggV,Nat.reduceEqDiff,Nat.reduceLT,Nat.reduceBEq,Nat.reduceBNe,reduceCtorEq,if_true,if_false,reduceIte,forall_const,IntKind.bits,IntKind.signed,eq_self_iff_true,finalOf,resultOf,cellsGood,AC.isCell,senv_mem,lift, flat,d_nil,d_cons,d_true,d_false,d_some,d_some1,slotsAt_get,slotsAt_nt,get_mk_cons,get_mk,wrs_nil,wrs_cons,wrs_none,get_heapAt,get_seen_nil,get_seen_cons,get_seen_one,List.cons_append,List.nil_append,Nat.reduceSub,Nat.reduceAdd,Nat.add_one_sub_one,bitOf, lty3,lty4,lty5,lty9,lty22,lty33,lty25,lty34,lty23,lty36,lty40,lty98,lty96,lty93,lty95,lty54,lty38,lty31, lenv_mem, none1, hnt, g0, g1, g2, g7, h1, h2, hw, hx1]
          rfl
        · rfl
        · skip
          simp +decide -implicitDefEqProofs only [stp,code_seq,evWanted,evOp,val,absV,evBin,evConv,evBuiltin,cmpInt,vals,partsOf,isAggD,cellsOf,isAggV,Nat.reduceEqDiff,Nat.reduceLT,Nat.reduceBEq,Nat.reduceBNe,reduceCtorEq,if_true,if_false,reduceIte,forall_const,IntKind.bits,IntKind.signed,eq_self_iff_true,finalOf,resultOf,cellsGood,AC.isCell,senv_mem,lift, flat,d_nil,d_cons,d_true,d_false,d_some,d_some1,slotsAt_get,slotsAt_nt,get_mk_cons,get_mk,wrs_nil,wrs_cons,wrs_none,get_heapAt,get_seen_nil,get_seen_cons,get_seen_one,List.cons_append,List.nil_append,Nat.reduceSub,Nat.reduceAdd,Nat.add_one_sub_one,bitOf, lty3,lty4,lty5,lty9,lty22,lty33,lty25,lty34,lty23,lty36,lty40,lty98,lty96,lty93,lty95,lty54,lty38,lty31, lenv_mem, none1, hnt, g0, g1, g2, g7, h1, h2, hw, h3]
          refine hQ2 _ _ _ _ (by simp) ?_
          simp +decide -implicitDefEqProofs only [stp,code_seq,evWanted,evOp,val,absV,evBin,evConv,evBuiltin,cmpInt,vals,partsOf,isAggD,cellsOf,isAggV,Nat.reduceEqDiff,Nat.reduceLT,Nat.reduceBEq,Nat.reduceBNe,reduceCtorEq,if_true,if_false,reduceIte,forall_const,IntKind.bits,IntKind.signed,eq_self_iff_true,finalOf,resultOf,cellsGood,AC.isCell,senv_mem,lift, flat,d_nil,d_cons,d_true,d_false,d_some,d_some1,slotsAt_get,slotsAt_nt,get_mk_cons,get_mk,wrs_nil,wrs_cons,wrs_none,get_heapAt,get_seen_nil,get_seen_cons,get_seen_one,List.cons_append,List.nil_append,Nat.reduceSub,Nat.reduceAdd,Nat.add_one_sub_one,bitOf, lty3,lty4,lty5,lty9,lty22,lty33,lty25,lty34,lty23,lty36,lty40,lty98,lty96,lty93,lty95,lty54,lty38,lty31, lenv_mem, none1, hnt, g0, g1, g2, g7, h1, h2, hw, h3]
          refine hQ _ _ _ _ (.c (.bool (atB s u k))) (by simp) ?_ ⟨rfl, rfl, rfl⟩
          simp +decide -implicitDefEqProofs only [stp,code_seq,evWanted,evOp,val,absV,evBin,evConv,evBuiltin,cmpInt,vals,partsOf,isAggD,cellsOf,isAggV,Nat.reduceEqDiff,Nat.reduceLT,Nat.reduceBEq,Nat.reduceBNe,reduceCtorEq,if_true,if_false,reduceIte,forall_const,IntKind.bits,IntKind.signed,eq_self_iff_true,finalOf,resultOf,cellsGood,AC.isCell,senv_mem,lift, flat,d_nil,d_cons,d_true,d_false,d_some,d_some1,slotsAt_get,slotsAt_nt,get_mk_cons,get_mk,wrs_nil,wrs_cons,wrs_none,get_heapAt,get_seen_nil,get_seen_cons,get_seen_one,List.cons_append,List.nil_append,Nat.reduceSub,Nat.reduceAdd,Nat.add_one_sub_one,bitOf, Tryz.f89, hnt]
          rw [hno]
      · have hki : k + i < s.length := by omega
        have hki0 : (0 : Int) ≤ ((k + i : Nat) : Int) := by omega
        have hki1 : ((k + i : Nat) : Int) < s.length := by omega
        obtain ⟨c, hc⟩ : ∃ c, s[k + i]? = some c := ⟨_, List.getElem?_eq_getElem hki⟩
        have hcb := byte_cast c
        have hwc : IntKind.i64.wrap ((c.toNat : Nat) : Int) = (c.toNat : Int) := wrap_id (by omega) (by omega)
        rw [hc] at hps
        simp only [Option.some.injEq] at hps
        rw [u8_eq hzb.1 hzb.2] at hps
        simp +decide -implicitDefEqProofs only [stp,code_seq,evWanted,evOp,val,absV,evBin,evConv,evBuiltin,cmpInt,vals,partsOf,isAggD,cellsOf,isAggV,Nat.reduceEqDiff,Nat.reduceLT,Nat.reduceBEq,Nat.reduceBNe,reduceCtorEq,if_true,if_false,reduceIte,forall_const,IntKind.bits,IntKind.signed,eq_self_iff_true,finalOf,resultOf,cellsGood,AC.isCell,senv_mem,lift, spliceAll,allFields,places,splice,List.take_zero,List.take_succ_cons,List.take_nil,List.drop_zero,List.drop_succ_cons,List.drop_nil,List.nil_append,List.append_nil,List.cons_append,List.all_cons,List.all_nil,Option.isSome_some,Nat.reduceAdd,Nat.reduceSub,Nat.reduceMul,Nat.reduceMod,Nat.reduceLeDiff,List.range,List.range.loop,List.map_cons,List.map_nil,pfind, lty3,lty4,lty5,lty9,lty22,lty33,lty25,lty34,lty23,lty36,lty40,lty98,lty96,lty93,lty95,lty54,lty38,lty31, lenv_mem, none1, hnt, g0, g1, g2, g7, h1]
        apply code_drawn lenv_ok none1_ok (by decide) _ (by rfl)
        · simp +decide -implicitDefEqProofs only [stp,code_seq,evWanted,evOp,val,absV,evBin,evConv,evBuiltin,cmpInt,vals,partsOf,isAggD,cellsOf,isAggV,Nat.reduceEqDiff,Nat.reduceLT,Nat.reduceBEq,Nat.reduceBNe,reduceCtorEq,if_true,if_false,reduceIte,forall_const,IntKind.bits,IntKind.signed,eq_self_iff_true,finalOf,resultOf,cellsGood,AC.isCell,senv_mem,lift, flat,d_nil,d_cons,d_true,d_false,d_some,d_some1,slotsAt_get,slotsAt_nt,get_mk_cons,get_mk,wrs_nil,wrs_cons,wrs_none,get_heapAt,get_seen_nil,get_seen_cons,get_seen_one,List.cons_append,List.nil_append,Nat.reduceSub,Nat.reduceAdd,Nat.add_one_sub_one,bitOf, lty3,lty4,lty5,lty9,lty22,lty33,lty25,lty34,lty23,lty36,lty40,lty98,lty96,lty93,lty95,lty54,lty38,lty31, lenv_mem, none1, hnt, g0, g1, g2, g7, h1, h2, hw, hx1, hki0, hki1, Int.toNat_natCast, hc, hwc, hj, hzc, hi0]
          rfl
        · rfl
        · by_cases h3 : (c.toNat : Int) = z
          · have h3 : ((c.toNat : Int) != z) = false := by simpa [bne] using h3
            simp +decide -implicitDefEqProofs only [stp,code_seq,evWanted,evOp,val,absV,evBin,evConv,evBuiltin,cmpInt,vals,partsOf,isAggD,cellsOf,isAggV,Nat.reduceEqDiff,Nat.reduceLT,Nat.reduceBEq,Nat.reduceBNe,reduceCtorEq,if_true,if_false,reduceIte,forall_const,IntKind.bits,IntKind.signed,eq_self_iff_true,finalOf,resultOf,cellsGood,AC.isCell,senv_mem,lift, flat,d_nil,d_cons,d_true,d_false,d_some,d_some1,slotsAt_get,slotsAt_nt,get_mk_cons,get_mk,wrs_nil,wrs_cons,wrs_none,get_heapAt,get_seen_nil,get_seen_cons,get_seen_one,List.cons_append,List.nil_append,Nat.reduceSub,Nat.reduceAdd,Nat.add_one_sub_one,bitOf, lty3,lty4,lty5,lty9,lty22,lty33,lty25,lty34,lty23,lty36,lty40,lty98,lty96,lty93,lty95,lty54,lty38,lty31, lenv_mem, none1, hnt, g0, g1, g2, g7, h1, h2, hw, h3]
            refine hQ1 (q - 1) _ _ _ (by omega) ⟨by simp only [nt_put, hnt], rfl, rfl, i + 1, by omega, ?_⟩
            simp +decide -implicitDefEqProofs only [stp,code_seq,evWanted,evOp,val,absV,evBin,evConv,evBuiltin,cmpInt,vals,partsOf,isAggD,cellsOf,isAggV,Nat.reduceEqDiff,Nat.reduceLT,Nat.reduceBEq,Nat.reduceBNe,reduceCtorEq,if_true,if_false,reduceIte,forall_const,IntKind.bits,IntKind.signed,eq_self_iff_true,finalOf,resultOf,cellsGood,AC.isCell,senv_mem,lift, flat,d_nil,d_cons,d_true,d_false,d_some,d_some1,slotsAt_get,slotsAt_nt,get_mk_cons,get_mk,wrs_nil,wrs_cons,wrs_none,get_heapAt,get_seen_nil,get_seen_cons,get_seen_one,List.cons_append,List.nil_append,Nat.reduceSub,Nat.reduceAdd,Nat.add_one_sub_one,bitOf, hnt, g0, g1, g2]
            rw [wrap_succ (by omega)]
            exact ⟨rfl, hps.2 (by simpa [bne] using h3)⟩
          · have hno : atB s u k = false := by
              unfold atB
              rw [Bool.and_eq_false_iff]
              right
              rw [Bool.eq_false_iff]
              intro h
              exact h3 (hps.1 (hmono.trans (preB_iff.1 h)))
            have h3 : ((c.toNat : Int) != z) = true := by simpa [bne] using h3
            simp +decide -implicitDefEqProofs only [stp,code_seq,evWanted,evOp,val,absV,evBin,evConv,evBuiltin,cmpInt,vals,partsOf,isAggD,cellsOf,isAggV,Nat.reduceEqDiff,Nat.reduceLT,Nat.reduceBEq,Nat.reduceBNe,reduceCtorEq,if_true,if_false,reduceIte,forall_const,IntKind.bits,IntKind.signed,eq_self_iff_true,finalOf,resultOf,cellsGood,AC.isCell,senv_mem,lift, flat,d_nil,d_cons,d_true,d_false,d_some,d_some1,slotsAt_get,slotsAt_nt,get_mk_cons,get_mk,wrs_nil,wrs_cons,wrs_none,get_heapAt,get_seen_nil,get_seen_cons,get_seen_one,List.cons_append,List.nil_append,Nat.reduceSub,Nat.reduceAdd,Nat.add_one_sub_one,bitOf, lty3,lty4,lty5,lty9,lty22,lty33,lty25,lty34,lty23,lty36,lty40,lty98,lty96,lty93,lty95,lty54,lty38,lty31, lenv_mem, none1, hnt, g0, g1, g2, g7, h1, h2, hw, h3]
            refine hQ2 _ _ _ _ (by simp) ?_
            simp +decide -implicitDefEqProofs only [stp,code_seq,evWanted,evOp,val,absV,evBin,evConv,evBuiltin,cmpInt,vals,partsOf,isAggD,cellsOf,isAggV,Nat.reduceEqDiff,Nat.reduceLT,Nat.reduceBEq,Nat.reduceBNe,reduceCtorEq,if_true,if_false,reduceIte,forall_const,IntKind.bits,IntKind.signed,eq_self_iff_true,finalOf,resultOf,cellsGood,AC.isCell,senv_mem,lift, flat,d_nil,d_cons,d_true,d_false,d_some,d_some1,slotsAt_get,slotsAt_nt,get_mk_cons,get_mk,wrs_nil,wrs_cons,wrs_none,get_heapAt,get_seen_nil,get_seen_cons,get_seen_one,List.cons_append,List.nil_append,Nat.reduceSub,Nat.reduceAdd,Nat.add_one_sub_one,bitOf, lty3,lty4,lty5,lty9,lty22,lty33,lty25,lty34,lty23,lty36,lty40,lty98,lty96,lty93,lty95,lty54,lty38,lty31, lenv_mem, none1, hnt, g0, g1, g2, g7, h1, h2, hw, h3]
            refine hQ _ _ _ _ (.c (.bool (atB s u k))) (by simp) ?_ ⟨rfl, rfl, rfl⟩
            simp +decide -implicitDefEqProofs only [stp,code_seq,evWanted,evOp,val,absV,evBin,evConv,evBuiltin,cmpInt,vals,partsOf,isAggD,cellsOf,isAggV,Nat.reduceEqDiff,Nat.reduceLT,Nat.reduceBEq,Nat.reduceBNe,reduceCtorEq,if_true,if_false,reduceIte,forall_const,IntKind.bits,IntKind.signed,eq_self_iff_true,finalOf,resultOf,cellsGood,AC.isCell,senv_mem,lift, flat,d_nil,d_cons,d_true,d_false,d_some,d_some1,slotsAt_get,slotsAt_nt,get_mk_cons,get_mk,wrs_nil,wrs_cons,wrs_none,get_heapAt,get_seen_nil,get_seen_cons,get_seen_one,List.cons_append,List.nil_append,Nat.reduceSub,Nat.reduceAdd,Nat.add_one_sub_one,bitOf, Tryz.f89, hnt]
            rw [hno]
    · have hi : i = u.length := by omega
      have hfull : atB s u k = decide (0 < (u.length : Int)) := by
        unfold atB
        rw [hi, List.take_length] at hp
        rw [preB_iff.2 hp, Bool.and_true]
      rcases hy with ⟨rfl, rfl⟩ | ⟨hne, j, rfl, hj⟩
      · have h1 : ¬ (i : Int) < 0 := by omega
        simp +decide -implicitDefEqProofs only [stp,code_seq,evWanted,evOp,val,absV,evBin,evConv,evBuiltin,cmpInt,vals,partsOf,isAggD,cellsOf,isAggV,Nat.reduceEqDiff,Nat.reduceLT,Nat.reduceBEq,Nat.reduceBNe,reduceCtorEq,if_true,if_false,reduceIte,forall_const,IntKind.bits,IntKind.signed,eq_self_iff_true,finalOf,resultOf,cellsGood,AC.isCell,senv_mem,lift, spliceAll,allFields,places,splice,List.take_zero,List.take_succ_cons,List.take_nil,List.drop_zero,List.drop_succ_cons,List.drop_nil,List.nil_append,List.append_nil,List.cons_append,List.all_cons,List.all_nil,Option.isSome_some,Nat.reduceAdd,Nat.reduceSub,Nat.reduceMul,Nat.reduceMod,Nat.reduceLeDiff,List.range,List.range.loop,List.map_cons,List.map_nil,pfind, lty3,lty4,lty5,lty9,lty22,lty33,lty25,lty34,lty23,lty36,lty40,lty98,lty96,lty93,lty95,lty54,lty38,lty31, lenv_mem, none1, hnt, g0, g1, g2, g7, h1]
        refine hQ2 _ _ _ _ (by simp) ?_
        simp +decide -implicitDefEqProofs only [stp,code_seq,evWanted,evOp,val,absV,evBin,evConv,evBuiltin,cmpInt,vals,partsOf,isAggD,cellsOf,isAggV,Nat.reduceEqDiff,Nat.reduceLT,Nat.reduceBEq,Nat.reduceBNe,reduceCtorEq,if_true,if_false,reduceIte,forall_const,IntKind.bits,IntKind.signed,eq_self_iff_true,finalOf,resultOf,cellsGood,AC.isCell,senv_mem,lift, spliceAll,allFields,places,splice,List.take_zero,List.take_succ_cons,List.take_nil,List.drop_zero,List.drop_succ_cons,List.drop_nil,List.nil_append,List.append_nil,List.cons_append,List.all_cons,List.all_nil,Option.isSome_some,Nat.reduceAdd,Nat.reduceSub,Nat.reduceMul,Nat.reduceMod,Nat.reduceLeDiff,List.range,List.range.loop,List.map_cons,List.map_nil,pfind, lty3,lty4,lty5,lty9,lty22,lty33,lty25,lty34,lty23,lty36,lty40,lty98,lty96,lty93,lty95,lty54,lty38,lty31, lenv_mem, none1, hnt, g0, g1, g2, g7]
        refine hQ _ _ _ _ (.c (.bool (atB s [] k))) (by simp) ?_ ⟨rfl, rfl, rfl⟩
        simp +decide -implicitDefEqProofs only [stp,code_seq,evWanted,evOp,val,absV,evBin,evConv,evBuiltin,cmpInt,vals,partsOf,isAggD,cellsOf,isAggV,Nat.reduceEqDiff,Nat.reduceLT,Nat.reduceBEq,Nat.reduceBNe,reduceCtorEq,if_true,if_false,reduceIte,forall_const,IntKind.bits,IntKind.signed,eq_self_iff_true,finalOf,resultOf,cellsGood,AC.isCell,senv_mem,lift, Tryz.f89, hnt, hfull]
      · simp +decide -implicitDefEqProofs only [stp,code_seq,evWanted,evOp,val,absV,evBin,evConv,evBuiltin,cmpInt,vals,partsOf,isAggD,cellsOf,isAggV,Nat.reduceEqDiff,Nat.reduceLT,Nat.reduceBEq,Nat.reduceBNe,reduceCtorEq,if_true,if_false,reduceIte,forall_const,IntKind.bits,IntKind.signed,eq_self_iff_true,finalOf,resultOf,cellsGood,AC.isCell,senv_mem,lift, spliceAll,allFields,places,splice,List.take_zero,List.take_succ_cons,List.take_nil,List.drop_zero,List.drop_succ_cons,List.drop_nil,List.nil_append,List.append_nil,List.cons_append,List.all_cons,List.all_nil,Option.isSome_some,Nat.reduceAdd,Nat.reduceSub,Nat.reduceMul,Nat.reduceMod,Nat.reduceLeDiff,List.range,List.range.loop,List.map_cons,List.map_nil,pfind, lty3,lty4,lty5,lty9,lty22,lty33,lty25,lty34,lty23,lty36,lty40,lty98,lty96,lty93,lty95,lty54,lty38,lty31, lenv_mem, none1, hnt, g0, g1, g2, g7, h1]
        refine hQ2 _ _ _ _ (by simp) ?_
        simp +decide -implicitDefEqProofs only [stp,code_seq,evWanted,evOp,val,absV,evBin,evConv,evBuiltin,cmpInt,vals,partsOf,isAggD,cellsOf,isAggV,Nat.reduceEqDiff,Nat.reduceLT,Nat.reduceBEq,Nat.reduceBNe,reduceCtorEq,if_true,if_false,reduceIte,forall_const,IntKind.bits,IntKind.signed,eq_self_iff_true,finalOf,resultOf,cellsGood,AC.isCell,senv_mem,lift, spliceAll,allFields,places,splice,List.take_zero,List.take_succ_cons,List.take_nil,List.drop_zero,List.drop_succ_cons,List.drop_nil,List.nil_append,List.append_nil,List.cons_append,List.all_cons,List.all_nil,Option.isSome_some,Nat.reduceAdd,Nat.reduceSub,Nat.reduceMul,Nat.reduceMod,Nat.reduceLeDiff,List.range,List.range.loop,List.map_cons,List.map_nil,pfind, lty3,lty4,lty5,lty9,lty22,lty33,lty25,lty34,lty23,lty36,lty40,lty98,lty96,lty93,lty95,lty54,lty38,lty31, lenv_mem, none1, hnt, g0, g1, g2, g7]
        refine hQ _ _ _ _ (.c (.bool (atB s u k))) (by simp) ?_ ⟨rfl, rfl, rfl⟩
        simp +decide -implicitDefEqProofs only [stp,code_seq,evWanted,evOp,val,absV,evBin,evConv,evBuiltin,cmpInt,vals,partsOf,isAggD,cellsOf,isAggV,Nat.reduceEqDiff,Nat.reduceLT,Nat.reduceBEq,Nat.reduceBNe,reduceCtorEq,if_true,if_false,reduceIte,forall_const,IntKind.bits,IntKind.signed,eq_self_iff_true,finalOf,resultOf,cellsGood,AC.isCell,senv_mem,lift, Tryz.f89, hnt, hfull]

end Go.Proofs.YtdpielghjaehbaaGreat.Ev
