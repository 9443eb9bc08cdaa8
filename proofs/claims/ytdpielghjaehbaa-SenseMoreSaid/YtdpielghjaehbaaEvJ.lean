/- The evaluator is sound: regions that draw their order. Part 3: one operation more. -/
import Derived.Test.YtdpielghjaehbaaEvH
set_option linter.unusedSectionVars false
set_option linter.unusedSimpArgs false
set_option linter.unusedVariables false
namespace Go.Proofs.Ytdpielghjaehbaa.Ev
open Go.RowKit

section
variable {P : Program} {E : Env} {B0 : Nat} {call : CallF} {ops : Array Oper} {bits : List Nat} {hs : List (List Nat)} {C : List Seg} {s : Slots} {R : List Rec} {n nm : Nat}
variable {al : Nat → Prop} {ρ0 ρ : Rho} {w0 w : World} {df : List Deferred} {D D' : Nat → Bool} {a : Act}

theorem newest_cons (R : List Rec) {x i : Nat} {r : Rec} (hr : R[i]? = some r) (hD' : ∀ j, D' j = (j == i || D j)) (hx : ∀ o, look r.δ x = some o → ∀ j rj, i < j → R[j]? = some rj → D j = true → look rj.δ x = none) :
    newest R x D' R.length = match look r.δ x with | some o => some (i, o) | none => newest R x D R.length := by
  have hil := (List.getElem?_eq_some_iff.1 hr).1
  cases hl : look r.δ x with
  | some o =>
    refine newest_of hil (by simp [hD']) hr hl fun j rj h1 h2 h3 h4 => ?_
    have : D j = true := by
      rw [hD'] at h3
      simp only [Bool.or_eq_true, beq_iff_eq] at h3
      exact h3.resolve_left (by omega)
    exact hx o hl j rj h1 h4 this
  | none =>
    refine newest_p _ _ _ _ _ fun j rj hj hrj hin => ?_
    rw [hD']
    by_cases e : j = i
    · subst e
      rw [hr] at hrj
      simp only [Option.some.injEq] at hrj; subst hrj
      obtain ⟨o, ho⟩ := hin
      rw [hl] at ho; cases ho
    · simp [e]

/-- An object that operation i speaks of no later operation that is done speaks of. -/
theorem nobody_later (G : Reg E call ops bits hs C s R n nm) (I : Inv E B0 bits hs C s R n nm al ρ0 w0 df D ρ a w) {i : Nat} {r : Rec} (hr : R[i]? = some r) (hc : CanCome bits D i) {x : Nat} (hx : In r.δ x) (hxh : x < r.hi) :
    ∀ j, i < j → ∀ rj, R[j]? = some rj → D j = true → look rj.δ x = none := by
  intro j
  induction j using Nat.strongRecOn with
  | _ j ih =>
    intro hij rj hj hD
    cases hl : look rj.δ x with
    | none => rfl
    | some o =>
      exfalso
      have hb : bitOf bits j i = false := by
        cases hb : bitOf bits j i with
        | false => rfl
        | true => have := hc.closed i j hD hb; rw [hc.un] at this; cases this
      have hjl := (List.getElem?_eq_some_iff.1 hj).1
      obtain ⟨o', ho'⟩ := (I.idl j rj x hj hD ⟨o, hl⟩).2 (Nat.lt_of_lt_of_le hxh (G.chain hr hj hij))
      have hg : get (seen (bitOf bits j) (R.take j).reverse j ++ C) x = some o' := by
        simp only [heapAt, get] at ho'
        split at ho'
        · rename_i o2 ho2
          exfalso
          subst ho'
          revert ho2
          generalize hs.getD j [] = l
          intro ho2
          induction l with
          | nil => simp [look] at ho2
          | cons y l ihl =>
            simp only [List.map_cons, look] at ho2
            by_cases e : (y == x) = true
            · rw [if_pos e] at ho2; cases ho2
            · rw [if_neg e] at ho2; exact ihl ho2
        · exact ho'
      rw [get_seen R _ C x j (by omega)] at hg
      cases hn : newest R x (fun _ => true) j with
      | none =>
        obtain ⟨o3, ho3⟩ := hx
        rw [newest_none hn i r hij rfl hr] at ho3; cases ho3
      | some y =>
        obtain ⟨k, o4⟩ := y
        rw [hn] at hg
        simp only at hg
        split at hg
        · rename_i hbk
          obtain ⟨h1, _, ⟨rk, h3, h4⟩, h5⟩ := newest_some hn
          rcases Nat.lt_trichotomy k i with hki | hki | hki
          · obtain ⟨o3, ho3⟩ := hx
            rw [h5 i r hki hij rfl hr] at ho3; cases ho3
          · subst hki; rw [hb] at hbk; cases hbk
          · have := ih k h1 hki rk h3 (hc.closed k j hD hbk)
            rw [this] at h4; cases h4
        · cases hg

theorem inv_step (G : Reg E call ops bits hs C s R n nm) (I : Inv E B0 bits hs C s R n nm al ρ0 w0 df D ρ a w) (hal : ∀ x o, get C x = some o → x < n ∧ o.ok (fun y => y < n)) (hal0 : ∀ x, al x → x < n)
    (hs0 : ∀ t, (s.get t).ok al) {i : Nat} {r : Rec} {oi : Oper} (hr : R[i]? = some r) (ho : ops[i]? = some oi) (hc : CanCome bits D i)
    (hD' : ∀ j, D' j = (j == i || D j)) {al' : Nat → Prop} {ρ' : Rho} {w' : World}
    (hst : Step E B0 (In r.δ) ⟨[] :: heapAt bits hs C (R.take i).reverse i, fun y => alD al R D y ∧ y < r.lo, r.lo, ρ, w⟩ ⟨r.δ :: heapAt bits hs C (R.take i).reverse i, al', r.hi, ρ', w'⟩)
    (hv : r.v.ok al') : Inv E B0 bits hs C s R n nm al ρ0 w0 df D' ρ' (a.put oi.dst (concV ρ' r.v)) w' := by
  have hDi : D' i = true := by simp [hD']
  have hDD : ∀ j, D j = true → D' j = true := fun j h => by simp [hD', h]
  have hD'D : ∀ j, D' j = true → j = i ∨ D j = true := fun j h => by
    rw [hD'] at h
    simpa using h
  obtain ⟨hn1, hn2⟩ := G.lo_n hr
  have hlohi := (G.lo hr).2.1
  have halD : ∀ x, alD al R D x → alD al R D' x := by
    rintro x (h | ⟨j, rj, h1, h2, h3⟩)
    · exact .inl h
    · exact .inr ⟨j, rj, h1, hDD j h2, h3⟩
  have hal' : ∀ x, al' x → alD al R D' x ∧ x < r.hi := by
    intro x hx
    rcases (hst.al_eq x).1 hx with h | h
    · exact ⟨halD x h.1, Nat.lt_of_lt_of_le h.2 hlohi⟩
    · exact ⟨.inr ⟨i, r, hr, hDi, h.1, h.2⟩, h.2⟩
  have hinh : ∀ x, In r.δ x → x < r.hi := fun x hx => hst.ids x hx
  -- what may be named in D is old for operation i
  have hag : ∀ x, alD al R D x → ρ' x = ρ x := by
    intro x hx
    refine hst.agree x ?_
    rcases hx with h | ⟨j, rj, h1, h2, h3, h4⟩
    · exact .inl (Nat.lt_of_lt_of_le (hal0 x h) hn1)
    · have hne : j ≠ i := fun e => by subst e; rw [hc.un] at h2; cases h2
      rcases Nat.lt_or_ge j i with hl | hl
      · exact .inl (Nat.lt_of_lt_of_le h4 (G.chain h1 hr hl))
      · exact .inr (Nat.le_trans (G.chain hr h1 (by omega)) h3)
  have hget : ∀ x, get (HD C R D') x = match look r.δ x with | some o => o | none => get (HD C R D) x := by
    intro x
    rw [get_HD, get_HD, newest_cons R hr hD' fun o hl j rj hij hrj hD => nobody_later G I hr hc ⟨o, hl⟩ (hinh x ⟨o, hl⟩) j hij rj hrj hD]
    cases look r.δ x <;> rfl
  have hgetE : ∀ x, get (r.δ :: heapAt bits hs C (R.take i).reverse i) x = match look r.δ x with | some o => o | none => get (heapAt bits hs C (R.take i).reverse i) x := fun x => rfl
  have hin : ∀ x o, look r.δ x = some (some o) → get (r.δ :: heapAt bits hs C (R.take i).reverse i) x = some o := fun x o h => by rw [hgetE, h]
  -- an object that operation i found
  have hfound : ∀ x, In r.δ x → x < r.lo → ∃ o, get (HD C R D) x = some o ∧ (get C x = some o ∨ TD R D x) := by
    intro x hx hlo
    obtain ⟨o, ho⟩ := hst.live x hx hlo
    have ho' : get (heapAt bits hs C (R.take i).reverse i) x = some o := by simpa only [get, look] using ho
    obtain ⟨h1, _, _, h4⟩ := sees G I hal hr hc ho'
    exact ⟨o, h1, h4⟩
  have hw : ∀ x o, ¬ In r.δ x → get (HD C R D) x = some o → w'.heap[(ρ x).1]? = w.heap[(ρ x).1]? := by
    intro x o hx ho
    refine hst.frame _ (I.rep.below ho) fun y hy hylo e => ?_
    obtain ⟨oy, hoy, _⟩ := hfound y hy hylo
    have := I.rep.inj y x oy o hoy ho e
    subst this
    exact hx hy
  have hcases : ∀ x o, get (HD C R D') x = some o → (In r.δ x ∧ get (r.δ :: heapAt bits hs C (R.take i).reverse i) x = some o) ∨ (¬ In r.δ x ∧ get (HD C R D) x = some o) := by
    intro x o ho
    rw [hget] at ho
    cases hl : look r.δ x with
    | some o' =>
      rw [hl] at ho
      simp only at ho
      subst ho
      exact .inl ⟨⟨_, hl⟩, hin x o hl⟩
    | none =>
      rw [hl] at ho
      exact .inr ⟨fun ⟨o', h'⟩ => (by rw [hl] at h'; cases h'), ho⟩
  have hrepE := hst.rep
  have hnew : ∀ x o, In r.δ x → get (r.δ :: heapAt bits hs C (R.take i).reverse i) x = some o → ∀ y p, ¬ In r.δ y → get (HD C R D) y = some p → (ρ' x).1 ≠ (ρ y).1 := by
    intro x o hx ho y p hy hp e
    have hby := I.rep.below hp
    simp only at hby
    by_cases hlo : x < r.lo
    · obtain ⟨o1, ho1, _⟩ := hfound x hx hlo
      have e0 : ρ' x = ρ x := hst.agree x (.inl hlo)
      rw [e0] at e
      have := I.rep.inj x y o1 p ho1 hp e
      subst this
      exact hy hx
    · rcases hst.newb x o (by simp only; omega) ho with h | ⟨j, hj, hjl, he⟩
      · simp only at h; omega
      · simp only at he hjl
        rw [he] at e
        obtain ⟨o1, ho1, _⟩ := hfound j hj hjl
        have := I.rep.inj j y o1 p ho1 hp e
        subst this
        exact hy hj
  have hTD : ∀ x, TD R D' x ↔ In r.δ x ∨ TD R D x := by
    intro x
    constructor
    · rintro ⟨j, rj, h1, h2, h3⟩
      rcases hD'D j h2 with e | e
      · subst e
        rw [hr] at h1
        simp only [Option.some.injEq] at h1; subst h1
        exact .inl h3
      · exact .inr ⟨j, rj, h1, e, h3⟩
    · rintro (h | ⟨j, rj, h1, h2, h3⟩)
      · exact ⟨i, r, hr, hDi, h⟩
      · exact ⟨j, rj, h1, hDD j h2, h3⟩
  refine { rep := ?_, ssz := ?_, sat := ?_, df := ?_, vok := ?_, cok := ?_, idl := ?_, agree := ?_, live := ?_, size := ?_, frame := ?_, newb := ?_, misc := ?_ }
  · refine { obj := ?_, lo := ?_, inj := ?_, al := ?_, lt := ?_, base := Nat.le_trans I.rep.base hst.size, mem := hrepE.mem }
    · intro x o ho
      rcases hcases x o ho with ⟨h1, h2⟩ | ⟨h1, h2⟩
      · exact hrepE.obj x o h2
      · obtain ⟨blk, hx, hb⟩ := I.rep.obj x o h2
        have e := hag x (I.rep.al x o h2).1
        refine ⟨blk, ?_, ?_⟩
        · simp only
          rw [e, hw x o h1 h2]
          exact hx
        · simp only [e]; exact BlkIs_agree hag (I.rep.al x o h2).2 hb
    · intro x o ho
      rcases hcases x o ho with ⟨h1, h2⟩ | ⟨h1, h2⟩
      · exact hrepE.lo x o h2
      · simp only [hag x (I.rep.al x o h2).1]; exact I.rep.lo x o h2
    · intro x y o p hx hy he
      simp only at he
      rcases hcases x o hx with ⟨h1, h2⟩ | ⟨h1, h2⟩ <;> rcases hcases y p hy with ⟨g1, g2⟩ | ⟨g1, g2⟩
      · exact hrepE.inj x y o p h2 g2 he
      · rw [hag y (I.rep.al y p g2).1] at he
        exact absurd he (hnew x o h1 h2 y p g1 g2)
      · rw [hag x (I.rep.al x o h2).1] at he
        exact absurd he.symm (hnew y p g1 g2 x o h1 h2)
      · rw [hag x (I.rep.al x o h2).1, hag y (I.rep.al y p g2).1] at he
        exact I.rep.inj x y o p h2 g2 he
    · intro x o ho
      rcases hcases x o ho with ⟨h1, h2⟩ | ⟨h1, h2⟩
      · exact ⟨(hal' x (hrepE.al x o h2).1).1, AObj.ok_mono (fun y hy => (hal' y hy).1) (hrepE.al x o h2).2⟩
      · exact ⟨halD x (I.rep.al x o h2).1, AObj.ok_mono halD (I.rep.al x o h2).2⟩
    · rintro x (h | ⟨j, rj, h1, h2, h3, h4⟩)
      · have := hal0 x h; simp only; omega
      · have := (G.lo_n h1).2; simp only; omega
  · cases hd : oi.dst <;> simp [Act.put, I.ssz]
  · intro t
    have hrd : r.dst = oi.dst := (G.recs i oi r ho hr).dst
    by_cases htn : t < s.nt
    · have hw2 : newestW s.nt R t D' R.length = if oi.dst = some t then some (i, r.v) else newestW s.nt R t D R.length := by
        by_cases hd : oi.dst = some t
        · rw [if_pos hd]
          refine newestW_of htn (List.getElem?_eq_some_iff.1 hr).1 hDi hr (by rw [hrd]; exact hd) fun j rj h1 h2 h3 h4 hdj => ?_
          obtain ⟨oj, hoj⟩ := G.get h4
          have hDj : D j = true := (hD'D j h3).resolve_left (by omega)
          have hb : bitOf bits j i = false := by
            cases hb : bitOf bits j i with
            | false => rfl
            | true => have := hc.closed i j hDj hb; rw [hc.un] at this; cases this
          have hbi : bitOf bits i j = false := by
            cases hb : bitOf bits i j with
            | false => rfl
            | true => have := (G.bitsE i oi ho j hb).1; omega
          exact (apart_of G ho hoj (by omega) hbi hb).2 t (by rw [← (G.recs j oj rj hoj h4).dst]; exact hdj) hd
        · rw [if_neg hd]
          refine newestW_p _ _ _ _ _ _ fun j rj h1 h2 h3 => ?_
          rw [hD']
          by_cases e : j = i
          · subst e
            rw [hr] at h2
            simp only [Option.some.injEq] at h2; subst h2
            rw [hrd] at h3
            exact absurd h3 hd
          · simp [e]
      rw [get_sD, hw2]
      by_cases hd : oi.dst = some t
      · rw [if_pos hd]
        simp only [hd, Act.put]
        have : t < a.tmps.size := by rw [I.ssz]; exact htn
        simp [this]
      · rw [if_neg hd]
        have h1 : (a.put oi.dst (concV ρ' r.v)).tmps.getD t Go.undef = a.tmps.getD t Go.undef := by
          cases hdd : oi.dst with
          | none => rfl
          | some t' =>
            have hne : t' ≠ t := fun e => hd (by rw [hdd, e])
            simp [Act.put, Array.getElem?_setIfInBounds_ne hne]
        rw [h1, I.sat t, get_sD]
        refine (concV_agree hag ?_).symm
        cases hm : newestW s.nt R t D R.length with
        | none => exact AV.ok_mono (fun x hx => .inl hx) (hs0 t)
        | some y =>
          obtain ⟨j, v⟩ := y
          obtain ⟨h1, h2, h3, ⟨rj, h4, h5, h6⟩, _⟩ := newestW_some hm
          subst h6
          exact AV.ok_mono (fun x hx => hx.1) (I.vok j rj h4 h2)
    · rw [get_sD, newestW_big htn]
      have h1 : (a.put oi.dst (concV ρ' r.v)).tmps.getD t Go.undef = a.tmps.getD t Go.undef := by
        have hsz : ¬ t < a.tmps.size := by rw [I.ssz]; exact htn
        cases hdd : oi.dst with
        | none => rfl
        | some t' => simp [Act.put, hsz]
      rw [h1, I.sat t, get_sD, newestW_big htn]
      exact (concV_agree hag (AV.ok_mono (fun x hx => .inl hx) (hs0 t))).symm
  · rw [put_defers]; exact I.df
  · intro j rj hj hDj
    rcases hD'D j hDj with e | e
    · subst e
      rw [hr] at hj
      simp only [Option.some.injEq] at hj; subst hj
      exact AV.ok_mono hal' hv
    · exact AV.ok_mono (fun x hx => ⟨halD x hx.1, hx.2⟩) (I.vok j rj hj e)
  · intro j rj x o hj hDj hl
    rcases hD'D j hDj with e | e
    · subst e
      rw [hr] at hj
      simp only [Option.some.injEq] at hj; subst hj
      exact AObj.ok_mono (fun y hy => (hal' y hy).2) (hrepE.al x o (hin x o hl)).2
    · exact I.cok j rj x o hj e hl
  · intro j rj x hj hDj hx
    rcases hD'D j hDj with e | e
    · subst e
      rw [hr] at hj
      simp only [Option.some.injEq] at hj; subst hj
      refine ⟨hinh x hx, fun hlo => ?_⟩
      obtain ⟨o, ho⟩ := hst.live x hx hlo
      exact ⟨o, by simpa only [get, look] using ho⟩
    · exact I.idl j rj x hj e hx
  · intro x hx
    have e0 : ρ' x = ρ x := hst.agree x (by simp only; omega)
    rw [e0, I.agree x hx]
  · intro x hx hxn
    rcases (hTD x).1 hx with h | h
    · obtain ⟨o, ho, hq⟩ := hfound x h (Nat.lt_of_lt_of_le hxn hn1)
      rcases hq with hq | hq
      · exact ⟨o, hq⟩
      · exact I.live x hq hxn
    · exact I.live x h hxn
  · exact Nat.le_trans I.size hst.size
  · intro b hb hT
    rw [hst.frame b (Nat.lt_of_lt_of_le hb I.size) ?_, I.frame b hb (fun x hx hxn => hT x ((hTD x).2 (.inr hx)) hxn)]
    intro y hy hylo
    simp only at hylo ⊢
    by_cases hyn : y < n
    · rw [I.agree y (.inl hyn)]; exact hT y ((hTD y).2 (.inl hy)) hyn
    · obtain ⟨o, ho, _⟩ := hfound y hy hylo
      rcases I.newb y o (by omega) ho with h | ⟨j, hj, hjn, he⟩
      · omega
      · rw [he]; exact hT j ((hTD j).2 (.inr hj)) hjn
  · intro x o hxn ho
    rcases hcases x o ho with ⟨h1, h2⟩ | ⟨h1, h2⟩
    · have old : ∀ y, In r.δ y → y < r.lo → n ≤ y → w0.heap.size ≤ (ρ y).1 ∨ ∃ j, TD R D' j ∧ j < n ∧ (ρ y).1 = (ρ0 j).1 := by
        intro y hy hylo hyn
        obtain ⟨o1, ho1, _⟩ := hfound y hy hylo
        rcases I.newb y o1 hyn ho1 with h | ⟨j, hj, hjn, he⟩
        · exact .inl h
        · exact .inr ⟨j, (hTD j).2 (.inr hj), hjn, he⟩
      by_cases hlo : x < r.lo
      · have e0 : ρ' x = ρ x := hst.agree x (.inl hlo)
        rw [e0]; exact old x h1 hlo hxn
      · rcases hst.newb x o (by simp only; omega) h2 with h | ⟨j, hj, hjl, he⟩
        · exact .inl (Nat.le_trans I.size h)
        · simp only at he hjl
          rw [he]
          by_cases hjn : j < n
          · rw [I.agree j (.inl hjn)]; exact .inr ⟨j, (hTD j).2 (.inl hj), hjn, rfl⟩
          · exact old j hj hjl (by omega)
    · rw [hag x (I.rep.al x o h2).1]
      rcases I.newb x o hxn h2 with h | ⟨j, hj, hjn, he⟩
      · exact .inl h
      · exact .inr ⟨j, (hTD j).2 (.inr hj), hjn, he⟩
  · exact ⟨hst.misc.1.trans I.misc.1, hst.misc.2.1.trans I.misc.2.1, hst.misc.2.2.trans I.misc.2.2⟩

end
end Go.Proofs.Ytdpielghjaehbaa.Ev

/- The evaluator is sound: regions that draw their order. Part 4: the whole region. -/
set_option linter.unusedSectionVars false
set_option linter.unusedSimpArgs false
set_option linter.unusedVariables false
namespace Go.Proofs.Ytdpielghjaehbaa.Ev
open Go.RowKit

section
variable {P : Program} {E : Env} {B0 : Nat} {call : CallF} {ops : Array Oper} {bits : List Nat} {hs : List (List Nat)} {C : List Seg} {s : Slots} {R : List Rec} {n nm : Nat}
variable {al : Nat → Prop} {ρ0 ρ : Rho} {w0 w : World} {df : List Deferred} {D D' : Nat → Bool} {a : Act}

/-- Operation i, whatever has been done, goes as its record says. -/
theorem op_comes (hE : EnvOk P E) (hcall : CallOk P E B0 call) (G : Reg E call ops bits hs C s R n nm) (I : Inv E B0 bits hs C s R n nm al ρ0 w0 df D ρ a w) (hal : ∀ x o, get C x = some o → x < n ∧ o.ok (fun y => y < n)) (hal0 : ∀ x, al x → x < n)
    (hs0 : ∀ t, (s.get t).ok al) (hbig : ∀ t, ¬ t < s.nt → concV ρ0 (s.get t) = Go.undef) {i : Nat} {oi : Oper} (ho : ops[i]? = some oi) (hc : CanCome bits D i) (hD' : ∀ j, D' j = (j == i || D j)) {Q : Exit → Act → World → Prop} {K : Act → World → Prop}
    (hK : ∀ ρ' a' w', Inv E B0 bits hs C s R n nm al ρ0 w0 df D' ρ' a' w' → K a' w') : wpOp P ops Q i K a w := by
  have hio : i < ops.size := (Array.getElem?_eq_some_iff.1 ho).1
  obtain ⟨r, hr⟩ := G.recAt hio
  have hrec := G.recs i oi r ho hr
  have hrep := rep_at G I hal hr hc
  have hag0 : ∀ x, al x → ρ x = ρ0 x := fun x hx => I.agree x (.inl (hal0 x hx))
  have hat : ∀ t, t ∈ oi.looksAt ops → a.tmps.getD t Go.undef = concV ρ ((slotsAt s bits (R.take i).reverse i).get t) := fun t ht => by
    rw [I.sat t, slot_at G hr ho hc ht]
  have hsd : (slotsAt s bits (R.take i).reverse i).nt = s.nt := rfl
  unfold wpOp
  rw [ho]
  simp only
  rcases hrec.goes with ⟨hw, hv, hδ, hhi⟩ | ⟨hw, hev⟩
  · rw [evWanted_at (a := a) (ρ := ρ) (s := slotsAt s bits (R.take i).reverse i) I.ssz hat hw]
    simp only [Bool.false_eq_true, if_false]
    have hlo : r.hi = r.lo := by rw [hhi, hrec.lo]
    have hst := Step.refl hrep
    have hst' : Step E B0 (In r.δ) ⟨[] :: heapAt bits hs C (R.take i).reverse i, fun y => alD al R D y ∧ y < r.lo, r.lo, ρ, w⟩ ⟨r.δ :: heapAt bits hs C (R.take i).reverse i, fun y => alD al R D y ∧ y < r.lo, r.hi, ρ, w⟩ := by
      rw [hδ, hlo]; exact hst
    have := inv_step G I hal hal0 hs0 hr ho hc hD' hst' (by rw [hv]; trivial)
    rw [hv] at this
    exact hK ρ _ w this
  · rw [evWanted_at (a := a) (ρ := ρ) (s := slotsAt s bits (R.take i).reverse i) I.ssz hat hw]
    simp only [if_true]
    left
    -- a frame that holds what the evaluator's slots say
    let a2 : Act := ⟨((List.range s.nt).map fun t => concV ρ ((slotsAt s bits (R.take i).reverse i).get t)).toArray, a.defers⟩
    have hget2 : ∀ t, (slotsAt s bits (R.take i).reverse i).get t = match newestW s.nt R t (bitOf bits i) i with | some (_, v) => v | none => s.get t := fun t =>
      sfind_wrs s.nt R (bitOf bits i) s.l t i (by have := (List.getElem?_eq_some_iff.1 hr).1; omega)
    have hs2 : SlotsOk ρ (fun y => alD al R D y ∧ y < r.lo) (slotsAt s bits (R.take i).reverse i) a2 := by
      refine ⟨by simp [a2, hsd], fun t => ?_, fun t => ?_⟩
      · by_cases ht : t < s.nt
        · simp [a2, ht]
        · have h1 : a2.tmps.getD t Go.undef = Go.undef := by simp [a2, ht]
          rw [h1, hget2, newestW_big ht]
          show Go.undef = concV ρ (s.get t)
          rw [concV_agree hag0 (hs0 t)]
          exact (hbig t ht).symm
      · rw [hget2]
        cases hm : newestW s.nt R t (bitOf bits i) i with
        | none => exact AV.ok_mono (fun x hx => ⟨.inl hx, Nat.lt_of_lt_of_le (hal0 x hx) (G.lo_n hr).1⟩) (hs0 t)
        | some y =>
          obtain ⟨j, v⟩ := y
          obtain ⟨h1, h2, h3, ⟨rj, h4, h5, h6⟩, _⟩ := newestW_some hm
          subst h6
          exact AV.ok_mono (fun x hx => ⟨hx.1, Nat.lt_of_lt_of_le hx.2 (G.chain h4 hr h1)⟩) (I.vok j rj h4 (hc.deps j h2))
    have hsel : ∀ cs b, oi.op ≠ .select cs b := fun cs b e => by simp [evOp, e] at hev
    have hex : execOp a.eval oi = execOp a2.eval oi := by
      refine execOp_congr oi hsel fun x hx => ?_
      cases x with
      | tmp t =>
        have ht : t ∈ oi.looksAt ops := List.mem_append_left _ (List.mem_filterMap.2 ⟨.tmp t, by simpa using hx, rfl⟩)
        show a.tmps.getD t undef = a2.tmps.getD t undef
        rw [hat t ht, hs2.at_ t]
      | _ => rfl
    have hrep' : Rep E B0 ⟨[] :: heapAt bits hs C (R.take i).reverse i, fun y => alD al R D y ∧ y < r.lo, loOf R n i, ρ, w⟩ := by rw [← hrec.lo]; exact hrep
    refine evOp_goes hrep' hE hs2 hcall hev a K Q hex ?_
    intro δ ρ' al' w' hd hst hvok
    have hδ : δ = r.δ := by simpa using hd.symm
    subst hδ
    rw [← hrec.lo] at hst
    exact hK ρ' _ w' (inv_step G I hal hal0 hs0 hr ho hc hD' hst hvok)

theorem getD_set (l : Array Bool) (i j : Nat) (hi : i < l.size) : (l.setIfInBounds i true).getD j false = (j == i || l.getD j false) := by
  by_cases e : j = i
  · subst e; simp [hi]
  · have e' : ¬ i = j := fun h => e h.symm
    simp [Array.getElem?_setIfInBounds_ne e', e]

def DD (l : Array Bool) (j : Nat) : Bool := l.getD j false

theorem closed_bits (G : Reg E call ops bits hs C s R n nm) (D : Nat → Bool) (hcl : ∀ k o, ops[k]? = some o → D k = true → ∀ e ∈ o.after, Region.binds .any e = true → D e.on = true) :
    ∀ (k : Nat) (o : Oper), ops[k]? = some o → (∀ e ∈ o.after, Region.binds .any e = true → D e.on = true) → ∀ x, bitOf bits k x = true → D x = true := by
  intro k
  induction k using Nat.strongRecOn with
  | _ k ih =>
    intro o ho hd x hx
    obtain ⟨hxk, e, he, hbe, hor⟩ := G.bitsE k o ho x hx
    rcases hor with h | h
    · rw [← h]; exact hd e he hbe
    · have hek := G.edges k o ho e he hbe
      have hks : k < ops.size := (Array.getElem?_eq_some_iff.1 ho).1
      obtain ⟨oe, hoe⟩ : ∃ oe, ops[e.on]? = some oe := ⟨_, Array.getElem?_eq_getElem (by omega)⟩
      exact ih e.on hek oe hoe (hcl e.on oe hoe (hd e he hbe)) x h

/-- Whatever order is drawn. -/
theorem draw_any (hE : EnvOk P E) (hcall : CallOk P E B0 call) (G : Reg E call ops bits hs C s R n nm) (hal : ∀ x o, get C x = some o → x < n ∧ o.ok (fun y => y < n)) (hal0 : ∀ x, al x → x < n)
    (hs0 : ∀ t, (s.get t).ok al) (hbig : ∀ t, ¬ t < s.nt → concV ρ0 (s.get t) = Go.undef) {Q : Exit → Act → World → Prop} (hQ : ∀ D ρ a w, (∀ j, j < ops.size → D j = true) → Inv E B0 bits hs C s R n nm al ρ0 w0 df D ρ a w → Q .normal a w) :
    ∀ (fuel : Nat) (listed : Array Bool) (ρ : Rho) (a : Act) (w : World), listed.size = ops.size → ((List.range ops.size).filter fun j => !DD listed j).length ≤ fuel →
      (∀ k o, ops[k]? = some o → DD listed k = true → ∀ e ∈ o.after, Region.binds .any e = true → DD listed e.on = true) → Inv E B0 bits hs C s R n nm al ρ0 w0 df (DD listed) ρ a w → wpAny P .any ops Q fuel listed a w := by
  have done : ∀ (listed : Array Bool) (ρ : Rho) (a : Act) (w : World), listed.size = ops.size → Inv E B0 bits hs C s R n nm al ρ0 w0 df (DD listed) ρ a w → Region.ready .any ops listed = [] → Q .normal a w := by
    intro listed ρ a w hsz I hr
    refine hQ (DD listed) ρ a w ?_ I
    intro j
    induction j using Nat.strongRecOn with
    | _ j ih =>
      intro hj
      cases hd : DD listed j with
      | true => rfl
      | false =>
        exfalso
        have hmem : j ∈ Region.ready .any ops listed := by
          refine mem_ready.2 ⟨?_, ops[j], Array.getElem?_eq_getElem hj, fun e he hbe => ?_⟩
          · have : j < listed.size := by omega
            simp only [DD, Array.getD_eq_getD_getElem?, Array.getElem?_eq_getElem this, Option.getD_some] at hd
            simp [Array.getElem?_eq_getElem this, hd]
          · have := G.edges j _ (Array.getElem?_eq_getElem hj) e he hbe
            exact ih e.on this (by omega)
        rw [hr] at hmem
        cases hmem
  intro fuel
  induction fuel with
  | zero =>
    intro listed ρ a w hsz hf hcl I
    have hnil : Region.ready .any ops listed = [] := by
      cases hr : Region.ready .any ops listed with
      | nil => rfl
      | cons i l =>
        exfalso
        have hi : i ∈ Region.ready .any ops listed := by rw [hr]; simp
        obtain ⟨h1, o, ho, _⟩ := mem_ready.1 hi
        have hio : i < ops.size := (Array.getElem?_eq_some_iff.1 ho).1
        have : i ∈ (List.range ops.size).filter fun j => !DD listed j := by
          refine List.mem_filter.2 ⟨List.mem_range.2 hio, ?_⟩
          have hil : i < listed.size := by omega
          simp only [Array.getD_eq_getD_getElem?, Array.getElem?_eq_getElem hil, Option.getD_some] at h1
          simp [DD, Array.getElem?_eq_getElem hil, h1]
        have := List.length_pos_of_mem this
        omega
    exact ⟨hnil, done listed ρ a w hsz I hnil⟩
  | succ fuel ih =>
    intro listed ρ a w hsz hf hcl I
    refine ⟨fun hr => done listed ρ a w hsz I hr, fun i hi => ?_⟩
    obtain ⟨h1, o, ho, hall⟩ := mem_ready.1 hi
    have hio : i < ops.size := (Array.getElem?_eq_some_iff.1 ho).1
    have hil : i < listed.size := by omega
    have hun : DD listed i = false := by
      simp only [Array.getD_eq_getD_getElem?, Array.getElem?_eq_getElem hil, Option.getD_some] at h1
      simp [DD, Array.getElem?_eq_getElem hil, h1]
    have hdeps : ∀ e ∈ o.after, Region.binds .any e = true → DD listed e.on = true := fun e he hbe => hall e he hbe
    have hc : CanCome bits (DD listed) i := by
      refine ⟨hun, fun j hb => closed_bits G (DD listed) hcl i o ho hdeps j hb, fun j k hD hb => ?_⟩
      have hk : k < ops.size := by
        rcases Nat.lt_or_ge k ops.size with h | h
        · exact h
        · simp [DD, Array.getElem?_eq_none (show listed.size ≤ k by omega)] at hD
      exact closed_bits G (DD listed) hcl k _ (Array.getElem?_eq_getElem hk) (hcl k _ (Array.getElem?_eq_getElem hk) hD) j hb
    have hD' : ∀ j, DD (listed.setIfInBounds i true) j = (j == i || DD listed j) := fun j => getD_set listed i j hil
    refine op_comes hE hcall G I hal hal0 hs0 hbig ho hc hD' fun ρ' a' w' I' => ih _ ρ' a' w' (by simpa using hsz) ?_ ?_ I'
    · have hlt : ((List.range ops.size).filter fun j => !DD (listed.setIfInBounds i true) j).length < ((List.range ops.size).filter fun j => !DD listed j).length := by
        have e : ((List.range ops.size).filter fun j => !DD (listed.setIfInBounds i true) j) = (((List.range ops.size).filter fun j => !DD listed j).filter fun j => !(j == i)) := by
          rw [List.filter_filter]
          refine List.filter_congr fun j _ => ?_
          rw [hD']
          cases (j == i) <;> cases DD listed j <;> rfl
        rw [e]
        refine List.length_filter_lt_length_iff_exists.2 ⟨i, List.mem_filter.2 ⟨List.mem_range.2 hio, by simp [hun]⟩, by simp⟩
      omega
    · intro k o' ho' hk e he hbe
      rw [hD'] at hk ⊢
      simp only [Bool.or_eq_true, beq_iff_eq] at hk ⊢
      rcases hk with h | h
      · subst h
        rw [ho] at ho'
        simp only [Option.some.injEq] at ho'; subst ho'
        exact .inr (hdeps e he hbe)
      · exact .inr (hcl k o' ho' h e he hbe)

end
end Go.Proofs.Ytdpielghjaehbaa.Ev
