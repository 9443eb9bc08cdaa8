/- The evaluator is sound: regions that draw their order, as the evaluator goes through them; code; calls. -/
import Derived.Test.YtdpielghjaehbaaEvJ
import Derived.LoopN
set_option linter.unusedSectionVars false
set_option linter.unusedSimpArgs false
set_option linter.unusedVariables false
namespace Go.Proofs.Ytdpielghjaehbaa.Ev
open Go.RowKit

theorem subIds_spec {xs ys : List Nat} (h : subIds xs ys = true) {x : Nat} (hx : x ∈ xs) : x ∈ ys := by
  have := List.all_eq_true.1 h x hx
  obtain ⟨y, hy, e⟩ := List.any_eq_true.1 this
  rw [beq_iff_eq.1 e]; exact hy

theorem subAll_spec : ∀ (xs ys : List (List Nat)), subAll xs ys = true → ∀ k x l, xs[k]? = some l → x ∈ l → x ∈ ys.getD k []
  | [], ys, _, k, x, l, hl, _ => by simp at hl
  | a :: xs, [], h, k, x, l, hl, hx => by
    simp only [subAll, Bool.and_eq_true] at h
    cases k with
    | zero =>
      simp only [List.getElem?_cons_zero, Option.some.injEq] at hl; subst hl
      rw [List.isEmpty_iff.1 h.1] at hx; cases hx
    | succ k => have := subAll_spec xs [] h.2 k x l (by simpa using hl) hx; simp at this
  | a :: xs, b :: ys, h, k, x, l, hl, hx => by
    simp only [subAll, Bool.and_eq_true] at h
    cases k with
    | zero =>
      simp only [List.getElem?_cons_zero, Option.some.injEq] at hl; subst hl
      simpa using subIds_spec h.1 hx
    | succ k => simpa using subAll_spec xs ys h.2 k x l (by simpa using hl) hx

theorem laters_at (bits : List Nat) (all : List Rec) (m : Nat) : ∀ (R : List Rec) (k0 i : Nat) (r : Rec), R[i]? = some r → (laters bits all m R k0)[i]? = some (laterIds bits (k0 + i) r.lo all m)
  | [], k0, i, r, h => by simp at h
  | a :: R, k0, i, r, h => by
    cases i with
    | zero =>
      simp only [List.getElem?_cons_zero, Option.some.injEq] at h; subst h
      simp [laters]
    | succ i =>
      simp only [laters, List.getElem?_cons_succ] at h ⊢
      rw [laters_at bits all m R (k0 + 1) i r h]
      congr 2
      omega

theorem look_mem : ∀ {δ : Seg} {x : Nat} {o : Option AObj}, look δ x = some o → x ∈ δ.map (·.1)
  | [], x, o, h => by simp [look] at h
  | (y, o') :: δ, x, o, h => by
    simp only [look] at h
    by_cases e : (y == x) = true
    · have := beq_iff_eq.1 e; subst this; simp
    · rw [if_neg e] at h; exact List.mem_cons_of_mem _ (look_mem h)

theorem laterIds_mem (bits : List Nat) (k lo : Nat) (R : List Rec) : ∀ (q : Nat), q ≤ R.length → ∀ (j : Nat) (rj : Rec) (x : Nat), k < j → j < q → R[j]? = some rj → bitOf bits j k = false → In rj.δ x → x < lo → x ∈ laterIds bits k lo (R.take q).reverse q
  | 0, _, j, rj, x, _, hj, _, _, _, _ => by omega
  | q + 1, hq, j, rj, x, hkj, hj, hr, hb, hx, hlo => by
    rw [take_succ_rev R q (by omega)]
    simp only [laterIds, Nat.add_sub_cancel]
    rw [if_neg (by omega)]
    by_cases e : j = q
    · subst e
      have : R[j] = rj := by
        rw [List.getElem?_eq_getElem (by omega)] at hr
        simpa using hr
      rw [hb, this]
      simp only [Bool.false_eq_true, if_false]
      refine List.mem_append_left _ (List.mem_filter.2 ⟨?_, by simpa using hlo⟩)
      obtain ⟨o, ho⟩ := hx
      exact look_mem ho
    · exact List.mem_append_right _ (laterIds_mem bits k lo R q (by omega) j rj x hkj (by omega) hr hb hx hlo)

theorem flat_append (rs : List Rec) (d : Seg) : flat rs d = flat rs [] ++ d := by
  induction rs with
  | nil => rfl
  | cons r rs ih => simp only [flat]; rw [ih, List.append_assoc]

theorem look_flat (R : List Rec) (x : Nat) : ∀ k, k ≤ R.length → look (flat (R.take k).reverse []) x = (newest R x (fun _ => true) k).map (·.2)
  | 0, _ => by simp [flat, newest, look]
  | k + 1, hk => by
    rw [take_succ_rev R k (by omega)]
    simp only [flat, look_append, newest, List.getElem?_eq_getElem (show k < R.length by omega), if_true]
    cases hl : look R[k].δ x with
    | some o => rfl
    | none => exact look_flat R x k (by omega)

theorem statGo_spec (ops : Array Oper) (bits : List Nat) : ∀ (l : List Oper) (k : Nat), statGo ops bits l k = true → ∀ j o, l[j]? = some o →
    (∀ e ∈ o.after, edgeOk (k + j) e = true) ∧ (∀ x, x < k + j → bitOk bits o (k + j) x = true) ∧ bits.getD (k + j) 0 < 2 ^ (k + j) ∧ pairsOk ops bits o (k + j) ops.toList 0 = true
  | [], k, h, j, o, ho => by simp at ho
  | a :: l, k, h, j, o, ho => by
    simp only [statGo, Bool.and_eq_true, decide_eq_true_eq] at h
    obtain ⟨⟨⟨⟨h1, h2⟩, h3⟩, h4⟩, h5⟩ := h
    cases j with
    | zero =>
      simp only [List.getElem?_cons_zero, Option.some.injEq] at ho; subst ho
      exact ⟨fun e he => List.all_eq_true.1 h1 e (Array.mem_toList_iff.2 he), fun x hx => List.all_eq_true.1 h2 x (List.mem_range.2 hx), h3, h4⟩
    | succ j =>
      have := statGo_spec ops bits l (k + 1) h5 j o (by simpa using ho)
      have e : k + 1 + j = k + (j + 1) := by omega
      rwa [e] at this

theorem pairsOk_spec (ops : Array Oper) (bits : List Nat) (o : Oper) (k : Nat) : ∀ (l : List Oper) (i0 : Nat), pairsOk ops bits o k l i0 = true → ∀ j p, l[j]? = some p → i0 + j < k → bitOf bits k (i0 + j) = true ∨ p.apart ops o = true
  | [], i0, h, j, p, hp, _ => by simp at hp
  | a :: l, i0, h, j, p, hp, hlt => by
    simp only [pairsOk, Bool.and_eq_true] at h
    cases j with
    | zero =>
      simp only [List.getElem?_cons_zero, Option.some.injEq] at hp; subst hp
      rw [if_pos (by omega)] at h
      simpa using h.1
    | succ j =>
      have := pairsOk_spec ops bits o k l (i0 + 1) h.2 j p (by simpa using hp) (by omega)
      have e : i0 + 1 + j = i0 + (j + 1) := by omega
      rwa [e] at this

section
variable {P : Program} {E : Env} {B0 : Nat} {call : CallF} {ops : Array Oper} {B : List Seg} {s s' : Slots} {n n' : Nat} {d d' : Seg} {al : Nat → Prop} {ρ : Rho} {w : World} {a : Act}

theorem reg_of {bits : List Nat} {hs : List (List Nat)} {C : List Seg} {rs : List Rec} (hb : bits = (befGo ops.toList []).reverse) (hst : statOk ops = true) (hgo : evDrawGo E call ops.toList bits hs C s ops.toList 0 [] n = some (rs, n'))
    (hsub : subAll (laters bits rs ops.toList.length rs.reverse 0) hs = true) : ∃ R, rs = R.reverse ∧ Reg E call ops bits hs C s R n n' := by
  obtain ⟨R, e1, e2, e3, e4⟩ := drawGo_recs ops.toList 0 [] n rs n' hgo
  simp only [List.append_nil] at e1
  subst e1
  have hstat := statGo_spec ops bits ops.toList 0 (by rw [hb]; exact hst)
  simp only [Nat.zero_add] at hstat
  refine ⟨R, rfl, ⟨by rw [e2]; simp, ?_, ?_, ?_, ?_, ?_, ?_⟩⟩
  · intro k o r ho hr
    have := e3 k o r (by simpa using ho) hr
    simp only [Nat.zero_add, List.append_nil] at this
    cases k <;> exact this
  · rw [e4]
    cases hl : R.length with
    | zero =>
      have : R = [] := List.eq_nil_of_length_eq_zero hl
      subst this; rfl
    | succ m =>
      simp only [loOf]
      rw [List.getLast?_eq_getElem?, hl, Nat.add_sub_cancel, List.getElem?_eq_getElem (by omega)]
      rfl
  · intro i j ri rj x hij hi hj hbit hx hlo
    rw [List.reverse_reverse] at hsub
    have h1 := laters_at bits R.reverse ops.toList.length R 0 i ri hi
    rw [Nat.zero_add] at h1
    have hjl := (List.getElem?_eq_some_iff.1 hj).1
    have h2 := laterIds_mem bits i ri.lo R R.length (Nat.le_refl _) j rj x hij hjl hj hbit hx hlo
    rw [List.take_length, e2] at h2
    exact subAll_spec _ _ hsub i x _ h1 h2
  · intro k o ho e he hbe
    have := (hstat k o (by simpa using ho)).1 e he
    simpa [edgeOk, hbe] using this
  · intro k o ho x hx
    obtain ⟨_, h2, h3, _⟩ := hstat k o (by simpa using ho)
    have hlt : x < k := by
      rcases Nat.lt_or_ge x k with h | h
      · exact h
      · exfalso
        have : bits.getD k 0 < 2 ^ x := Nat.lt_of_lt_of_le h3 (Nat.pow_le_pow_right (by omega) h)
        rw [bitOf, Nat.testBit_lt_two_pow this] at hx
        cases hx
    refine ⟨hlt, ?_⟩
    have := h2 x hlt
    simp only [bitOk, hx, Bool.not_true, Bool.false_or] at this
    obtain ⟨e, he, hq⟩ := List.any_eq_true.1 this
    simp only [Bool.and_eq_true, Bool.or_eq_true, beq_iff_eq] at hq
    exact ⟨e, Array.mem_toList_iff.1 he, hq.1, hq.2⟩
  · intro i k p o hik hp ho
    obtain ⟨_, _, _, h4⟩ := hstat k o (by simpa using ho)
    have := pairsOk_spec ops bits o k ops.toList 0 h4 i p (by simpa using hp) (by omega)
    simpa using this

theorem rep_world {S : St} (h : Rep E B0 S) {w' : World} (hw : w'.heap = S.w.heap) : Rep E B0 { S with w := w' } where
  obj i o ho := by have := h.obj i o ho; simp only [hw]; exact this
  lo := h.lo
  inj := h.inj
  al := h.al
  lt := h.lt
  base := by simp only [hw]; exact h.base
  mem b o v hv := ⟨(h.mem b o v hv).1, by simp only; rw [cell_of_heap (w := S.w) (by rw [hw])]; exact (h.mem b o v hv).2⟩

theorem newest_nothing (R : List Rec) (x : Nat) (p : Nat → Bool) (h : ∀ j, p j = false) : ∀ k, newest R x p k = none
  | 0 => rfl
  | k + 1 => by simp only [newest, h, Bool.false_eq_true, if_false, newest_nothing R x p h k]; cases R[k]? <;> rfl

theorem newestW_nothing (nt : Nat) (R : List Rec) (t : Nat) (p : Nat → Bool) (h : ∀ j, p j = false) : ∀ k, newestW nt R t p k = none
  | 0 => rfl
  | k + 1 => by simp only [newestW, h, Bool.false_eq_true, false_and, if_false, newestW_nothing nt R t p h k]; cases R[k]? <;> rfl

theorem region_ok (hE : EnvOk P E) (hcall : CallOk P E B0 call) {id : Nat} (hst : statOk ops = true) (h : Rep E B0 ⟨d :: B, al, n, ρ, w⟩) (hs : SlotsOk ρ al s a) (hev : evDraw E call ops.toList B s d n = some (s', d', n')) {Q : Exit → Act → World → Prop}
    (hq : ∀ δ ρ' al' w' a', d' = δ ++ d → Step E B0 (In δ) ⟨d :: B, al, n, ρ, w⟩ ⟨d' :: B, al', n', ρ', w'⟩ → SlotsOk ρ' al' s' a' → a'.defers = a.defers → Q .normal a' w') : (Code.region id ops true).wp P Q a w := by
  -- the records
  have key : ∃ hints R, Reg E call ops (befGo ops.toList []).reverse hints (d :: B) s R n n' ∧ s' = sD s R (fun _ => true) ∧ d' = flat R.reverse d := by
    have hm : ops.toList.length = ops.size := by simp
    unfold evDraw at hev
    simp only at hev
    split at hev
    · cases hev
    · rename_i rs n1 hgo
      split at hev
      · rename_i hsub
        simp only [Option.some.injEq, Prod.mk.injEq] at hev
        obtain ⟨rfl, rfl, rfl⟩ := hev
        obtain ⟨R, rfl, G⟩ := reg_of rfl hst hgo hsub
        exact ⟨_, R, G, by rw [sD, G.len, hm], rfl⟩
      · split at hev
        · cases hev
        · rename_i rs' n2 hgo'
          split at hev
          · rename_i hsub
            simp only [Option.some.injEq, Prod.mk.injEq] at hev
            obtain ⟨rfl, rfl, rfl⟩ := hev
            obtain ⟨R, rfl, G⟩ := reg_of rfl hst hgo' hsub
            exact ⟨_, R, G, by rw [sD, G.len, hm], rfl⟩
          · cases hev
  obtain ⟨hints, R, G, rfl, rfl⟩ := key
  have hal : ∀ x o, get (d :: B) x = some o → x < n ∧ o.ok (fun y => y < n) := fun x o ho => ⟨h.lt x (h.al x o ho).1, AObj.ok_mono (fun y hy => h.lt y hy) (h.al x o ho).2⟩
  have hal0 : ∀ x, al x → x < n := fun x hx => h.lt x hx
  have hbig : ∀ t, ¬ t < s.nt → concV ρ (s.get t) = Go.undef := fun t ht => by
    rw [← hs.at_ t]
    have : ¬ t < a.tmps.size := by rw [hs.size]; exact ht
    simp [this]
  have hfalse : ∀ j, DD (Array.replicate ops.size false) j = false := fun j => by
    simp only [DD, Array.getD_eq_getD_getElem?]
    by_cases hj : j < ops.size <;> simp [hj]
  have hnn : n ≤ n' := by
    have := G.lo_le R.length 0 (by omega) (Nat.le_refl _)
    rw [G.top]; exact this
  have I0 : Inv E B0 (befGo ops.toList []).reverse hints (d :: B) s R n n' al ρ w a.defers (DD (Array.replicate ops.size false)) ρ a { w with drawn := w.drawn + 1 } := by
    have hg : ∀ x, get (HD (d :: B) R (DD (Array.replicate ops.size false))) x = get (d :: B) x := fun x => by rw [get_HD, newest_nothing R x _ hfalse]
    have ha : ∀ x, al x → alD al R (DD (Array.replicate ops.size false)) x := fun x hx => .inl hx
    refine { rep := ?_, ssz := hs.size, sat := ?_, df := rfl, vok := fun j r _ hD => (by rw [hfalse] at hD; cases hD), cok := fun j r x o _ hD => (by rw [hfalse] at hD; cases hD), idl := fun j r x _ hD => (by rw [hfalse] at hD; cases hD),
             agree := fun _ _ => rfl, live := fun x ⟨j, r, _, hD, _⟩ => (by rw [hfalse] at hD; cases hD), size := Nat.le_refl _, frame := fun _ _ _ => rfl, newb := ?_, misc := ⟨rfl, rfl, rfl⟩ }
    · exact { obj := fun x o ho => h.obj x o (by rw [← hg]; exact ho), lo := fun x o ho => h.lo x o (by rw [← hg]; exact ho), inj := fun x y o p hx hy => h.inj x y o p (by rw [← hg]; exact hx) (by rw [← hg]; exact hy),
              al := fun x o ho => ⟨ha x (h.al x o (by rw [← hg]; exact ho)).1, AObj.ok_mono ha (h.al x o (by rw [← hg]; exact ho)).2⟩,
              lt := fun x hx => (by
                rcases hx with hx | ⟨j, r, _, hD, _⟩
                · exact Nat.lt_of_lt_of_le (hal0 x hx) hnn
                · rw [hfalse] at hD; cases hD), base := h.base, mem := h.mem }
    · intro t
      rw [hs.at_ t, get_sD, newestW_nothing _ R t _ hfalse]
    · intro x o hx ho
      rw [hg] at ho
      have := (hal x o ho).1
      omega
  refine wp_region_any hE.mixed (draw_any hE hcall G hal hal0 hs.ok hbig (fun D ρ' a' w' hD I => ?_) ops.size _ ρ a _ (by simp) ?_ (fun k o _ hk => (by rw [hfalse] at hk; cases hk)) I0)
  · have hDR : ∀ j r, R[j]? = some r → D j = true := fun j r hr => hD j (by rw [← G.len]; exact (List.getElem?_eq_some_iff.1 hr).1)
    have hg : ∀ x, get (flat R.reverse d :: B) x = get (HD (d :: B) R D) x := by
      intro x
      rw [flat_append, get_append, get_HD]
      have := look_flat R x R.length (Nat.le_refl _)
      rw [List.take_length] at this
      rw [this, newest_p R x D (fun _ => true) R.length (fun j r _ hr _ => hDR j r hr)]
      cases newest R x (fun _ => true) R.length <;> rfl
    have hT : ∀ x, In (flat R.reverse []) x ↔ TD R D x := by
      intro x
      have hl := look_flat R x R.length (Nat.le_refl _)
      rw [List.take_length] at hl
      unfold In
      rw [hl]
      constructor
      · rintro ⟨o, ho⟩
        cases hn : newest R x (fun _ => true) R.length with
        | none => rw [hn] at ho; cases ho
        | some y =>
          obtain ⟨j, o'⟩ := y
          obtain ⟨h1, _, ⟨r, h3, h4⟩, _⟩ := newest_some hn
          exact ⟨j, r, h3, hDR j r h3, _, h4⟩
      · rintro ⟨j, r, h1, _, o, ho⟩
        cases hn : newest R x (fun _ => true) R.length with
        | none => rw [newest_none hn j r (List.getElem?_eq_some_iff.1 h1).1 rfl h1] at ho; cases ho
        | some y => exact ⟨y.2, rfl⟩
    have halD : ∀ x, alD al R D x ↔ al x ∨ (n ≤ x ∧ x < n') := by
      intro x
      constructor
      · rintro (h | ⟨j, r, h1, h2, h3, h4⟩)
        · exact .inl h
        · have := G.lo_n h1; exact .inr ⟨by omega, by omega⟩
      · rintro (h | ⟨h1, h2⟩)
        · exact .inl h
        · right
          -- the record whose numbers these are
          have : ∀ k, k ≤ R.length → x < loOf R n k → ∃ (j : Nat) (r : Rec), R[j]? = some r ∧ r.lo ≤ x ∧ x < r.hi := by
            intro k
            induction k with
            | zero => intro _ h; simp only [loOf] at h; omega
            | succ k ih =>
              intro hk hlt
              obtain ⟨r, hr⟩ : ∃ r, R[k]? = some r := ⟨_, List.getElem?_eq_getElem (by omega)⟩
              obtain ⟨g1, g2, g3⟩ := G.lo hr
              by_cases hx : r.lo ≤ x
              · exact ⟨k, r, hr, hx, by omega⟩
              · exact ih (by omega) (by omega)
          obtain ⟨j, r, h3, h4, h5⟩ := this R.length (Nat.le_refl _) (by rw [← G.top]; exact h2)
          exact ⟨j, r, h3, hDR j r h3, h4, h5⟩
    refine hq (flat R.reverse []) ρ' (alD al R D) w' a' (flat_append _ _) ?_ ?_ I.df
    · refine { rep := ?_, al_eq := halD, n_le := hnn, agree := I.agree, kept := ?_, live := fun x hx hxn => I.live x ((hT x).1 hx) hxn, ids := ?_, size := I.size, frame := fun b hb hb' => I.frame b hb (fun x hx hxn => hb' x ((hT x).2 hx) hxn), newb := ?_, misc := I.misc }
      · exact { obj := fun x o ho => I.rep.obj x o (by simp only [hg] at ho; exact ho), lo := fun x o ho => I.rep.lo x o (by simp only [hg] at ho; exact ho),
                inj := fun x y o p hx hy => I.rep.inj x y o p (by simp only [hg] at hx; exact hx) (by simp only [hg] at hy; exact hy),
                al := fun x o ho => I.rep.al x o (by simp only [hg] at ho; exact ho), lt := I.rep.lt, base := I.rep.base, mem := I.rep.mem }
      · intro x hx
        simp only
        rw [flat_append]; exact get_kept hx
      · intro x hx
        obtain ⟨j, r, h1, h2, h3⟩ := (hT x).1 hx
        have := (I.idl j r x h1 h2 h3).1
        have := (G.lo_n h1).2
        simp only; omega
      · intro x o hx ho
        simp only [hg] at ho
        rcases I.newb x o hx ho with h | ⟨j, hj, r⟩
        · exact .inl h
        · exact .inr ⟨j, (hT j).2 hj, r⟩
    · have hsl : ∀ t, (sD s R (fun _ => true)).get t = (sD s R D).get t := fun t => by
        rw [get_sD, get_sD, newestW_p _ R t D (fun _ => true) R.length (fun j r _ hr _ => hDR j r hr)]
      refine ⟨I.ssz, fun t => by rw [hsl]; exact I.sat t, fun t => ?_⟩
      rw [hsl, get_sD]
      cases hm : newestW s.nt R t D R.length with
      | none => exact AV.ok_mono (fun x hx => .inl hx) (hs.ok t)
      | some y =>
        obtain ⟨j, v⟩ := y
        obtain ⟨h1, h2, h3, ⟨rj, h4, h5, h6⟩, _⟩ := newestW_some hm
        subst h6
        exact AV.ok_mono (fun x hx => hx.1) (I.vok j rj h4 h2)
  · refine Nat.le_trans (List.length_filter_le _ _) (by simp)

end
end Go.Proofs.Ytdpielghjaehbaa.Ev

/- The evaluator is sound: code, calls, and what a call's result is worth. -/
set_option linter.unusedSectionVars false
set_option linter.unusedSimpArgs false
set_option linter.unusedVariables false
namespace Go.Proofs.Ytdpielghjaehbaa.Ev
open Go.RowKit

def exitOf : AX → Exit
  | .norm => .normal
  | .exit id => .exit id
  | .ret => .ret

section
variable {P : Program} {E : Env} {B0 : Nat}

/-- What is known behind a piece of code. -/
def Post (E : Env) (B0 : Nat) (B : List Seg) (d : Seg) (n : Nat) (al : Nat → Prop) (ρ : Rho) (w : World) (a : Act) (x : AX) (s' : Slots) (d' : Seg) (n' : Nat) (Q : Exit → Act → World → Prop) : Prop :=
  ∀ δ ρ' al' w' a', d' = δ ++ d → Step E B0 (In δ) ⟨d :: B, al, n, ρ, w⟩ ⟨d' :: B, al', n', ρ', w'⟩ → SlotsOk ρ' al' s' a' → a'.defers = a.defers → Q (exitOf x) a' w'

def CodeOk (P : Program) (E : Env) (B0 : Nat) (rec : CodeF) : Prop :=
  ∀ c B s d n x s' d' n' al ρ w a Q, rec c B s d n = some (x, s', d', n') → codeOk c = true → Rep E B0 ⟨d :: B, al, n, ρ, w⟩ → SlotsOk ρ al s a → Post E B0 B d n al ρ w a x s' d' n' Q → c.wp P Q a w

def RoundsOk (P : Program) (E : Env) (B0 : Nat) (rec : CodeF) (k : Nat) : Prop :=
  ∀ c B s d n x s' d' n' al ρ w a Q, rec (.loop c) B s d n = some (x, s', d', n') → codeOk c = true → Rep E B0 ⟨d :: B, al, n, ρ, w⟩ → SlotsOk ρ al s a → Post E B0 B d n al ρ w a x s' d' n' Q → Code.rounds P c Q k a w

theorem Post.after {B : List Seg} {d d1 : Seg} {n n1 : Nat} {al al1 : Nat → Prop} {ρ ρ1 : Rho} {w w1 : World} {a a1 : Act} {x : AX} {s' : Slots} {d' : Seg} {n' : Nat} {Q : Exit → Act → World → Prop} {δ : Seg}
    (hq : Post E B0 B d n al ρ w a x s' d' n' Q) (hd : d1 = δ ++ d) (hst : Step E B0 (In δ) ⟨d :: B, al, n, ρ, w⟩ ⟨d1 :: B, al1, n1, ρ1, w1⟩) (hdf : a1.defers = a.defers) : Post E B0 B d1 n1 al1 ρ1 w1 a1 x s' d' n' Q :=
  fun δ2 ρ2 al2 w2 a2 hd2 hst2 hs2 hdf2 => hq (δ2 ++ δ) ρ2 al2 w2 a2 (by rw [hd2, hd, List.append_assoc]) (hst.trans' hst2) hs2 (hdf2.trans hdf)

theorem rounds_step (hE : EnvOk P E) {rec : CodeF} {call : CallF} {k : Nat} (hrec : CodeOk P E B0 rec) (hro : RoundsOk P E B0 rec k) : RoundsOk P E B0 (codeStep E call rec) (k + 1) := by
  intro c B s d n x s' d' n' al ρ w a Q hev hok h hs hq
  rw [rounds_succ]
  simp only [codeStep] at hev
  split at hev
  · rename_i s1 d1 n1 h1
    refine hrec c B s d n .norm s1 d1 n1 al ρ w a _ h1 hok h hs ?_
    intro δ ρ1 al1 w1 a1 hd hst hs1 hdf
    exact hro c B s1 d1 n1 x s' d' n' al1 ρ1 w1 a1 Q hev hok hst.rep hs1 (hq.after hd hst hdf)
  · rename_i hne
    refine hrec c B s d n x s' d' n' al ρ w a _ hev hok h hs ?_
    intro δ ρ1 al1 w1 a1 hd hst hs1 hdf
    have := hq δ ρ1 al1 w1 a1 hd hst hs1 hdf
    cases x with
    | norm => exact absurd hev (hne s' d' n')
    | exit id => exact this
    | ret => exact this

theorem code_step (hE : EnvOk P E) {rec : CodeF} {call : CallF} {k : Nat} (hcall : CallOk P E B0 call) (hrec : CodeOk P E B0 rec) (hro : RoundsOk P E B0 rec k) : CodeOk P E B0 (codeStep E call rec) := by
  intro c B s d n x s' d' n' al ρ w a Q hev hok h hs hq
  have here : some (x, s', d', n') = some (AX.norm, s, d, n) → Q .normal a w := fun e => by
    simp only [Option.some.injEq, Prod.mk.injEq] at e
    obtain ⟨rfl, rfl, rfl, rfl⟩ := e
    exact hq [] ρ al w a rfl (Step.refl h) hs rfl
  cases c with
  | skip => exact wp_skip (here (by simpa [codeStep] using hev.symm))
  | label l => exact wp_label (here (by simpa [codeStep] using hev.symm))
  | region id ops draw =>
    cases draw with
    | false =>
      simp only [codeStep] at hev
      split at hev
      · rename_i s1 d1 n1 h1
        simp only [Option.some.injEq, Prod.mk.injEq] at hev
        obtain ⟨rfl, rfl, rfl, rfl⟩ := hev
        refine wp_region ?_
        have := evOps_ok (Q := Q) hE hcall ops ops.toList 0 s s1 d d1 n n1 al ρ w a (fun j => by simp) h hs h1 (fun δ ρ' al' w' a' hd hst hs' hdf => hq δ ρ' al' w' a' hd hst hs' hdf)
        simpa using this
      · cases hev
    | true =>
      simp only [codeStep] at hev
      split at hev
      · rename_i s1 d1 n1 h1
        simp only [Option.some.injEq, Prod.mk.injEq] at hev
        obtain ⟨rfl, rfl, rfl, rfl⟩ := hev
        exact region_ok hE hcall hok h hs h1 hq
      · cases hev
  | seq c1 c2 =>
    simp only [codeOk, Bool.and_eq_true] at hok
    simp only [codeStep] at hev
    refine wp_seq ?_
    split at hev
    · rename_i s1 d1 n1 h1
      refine hrec c1 B s d n .norm s1 d1 n1 al ρ w a _ h1 hok.1 h hs ?_
      intro δ ρ1 al1 w1 a1 hd hst hs1 hdf
      exact hrec c2 B s1 d1 n1 x s' d' n' al1 ρ1 w1 a1 Q hev hok.2 hst.rep hs1 (hq.after hd hst hdf)
    · rename_i hne
      refine hrec c1 B s d n x s' d' n' al ρ w a _ hev hok.1 h hs ?_
      intro δ ρ1 al1 w1 a1 hd hst hs1 hdf
      have := hq δ ρ1 al1 w1 a1 hd hst hs1 hdf
      cases x with
      | norm => exact absurd hev (hne s' d' n')
      | exit id => exact this
      | ret => exact this
  | cond cx c1 c2 =>
    simp only [codeOk, Bool.and_eq_true] at hok
    simp only [codeStep] at hev
    split at hev
    · rename_i t ht
      refine wp_cond (t := t) (val_conc hs ht).1 ?_
      cases t with
      | true => exact hrec c1 B s d n x s' d' n' al ρ w a Q hev hok.1 h hs hq
      | false => exact hrec c2 B s d n x s' d' n' al ρ w a Q hev hok.2 h hs hq
    · cases hev
  | block id c1 =>
    simp only [codeStep] at hev
    refine wp_block ?_
    split at hev
    · rename_i j s1 d1 n1 h1
      simp only [Option.some.injEq, Prod.mk.injEq] at hev
      obtain ⟨rfl, rfl, rfl, rfl⟩ := hev
      refine hrec c1 B s d n (.exit j) s1 d1 n1 al ρ w a _ h1 hok h hs ?_
      intro δ ρ1 al1 w1 a1 hd hst hs1 hdf
      have := hq δ ρ1 al1 w1 a1 hd hst hs1 hdf
      show if j = id then Q .normal a1 w1 else Q (.exit j) a1 w1
      by_cases e : j = id
      · subst e
        simpa [exitOf] using this
      · have e' : (j == id) = false := by simpa using e
        rw [e'] at this
        rw [if_neg e]
        simpa [exitOf] using this
    · rename_i hne
      refine hrec c1 B s d n x s' d' n' al ρ w a _ hev hok h hs ?_
      intro δ ρ1 al1 w1 a1 hd hst hs1 hdf
      have := hq δ ρ1 al1 w1 a1 hd hst hs1 hdf
      cases x with
      | norm => exact this
      | exit j => exact absurd hev (hne j s' d' n')
      | ret => exact this
  | loop c1 => exact wp_loop_rounds (k + 1) (rounds_step hE hrec hro c1 B s d n x s' d' n' al ρ w a Q hev hok h hs hq)
  | exit id =>
    simp only [codeStep, Option.some.injEq, Prod.mk.injEq] at hev
    obtain ⟨rfl, rfl, rfl, rfl⟩ := hev
    exact wp_exit (hq [] ρ al w a rfl (Step.refl h) hs rfl)
  | ret =>
    simp only [codeStep, Option.some.injEq, Prod.mk.injEq] at hev
    obtain ⟨rfl, rfl, rfl, rfl⟩ := hev
    exact wp_ret (hq [] ρ al w a rfl (Step.refl h) hs rfl)
  | _ => simp [codeStep] at hev

/-! ### Calls -/

theorem sfind_args : ∀ (args : List AV) (k t : Nat), sfind (argSlots args k) t = if k ≤ t then (args[t - k]?).getD (.c .undef) else .c .undef
  | [], k, t => by simp [argSlots, sfind]
  | v :: r, k, t => by
    rw [argSlots, sfind_cons, sfind_args r (k + 1) t]
    by_cases e : k = t
    · subst e; simp
    · rw [if_neg e]
      by_cases h : k ≤ t
      · rw [if_pos h, if_pos (by omega)]
        have : t - k = (t - (k + 1)) + 1 := by omega
        rw [this, List.getElem?_cons_succ]
      · rw [if_neg h, if_neg (by omega)]

def resV (tmps : Array Value) : ResultVar → Sem Value
  | .tmp t => pure (tmps.getD t Go.undef)
  | .cell p t => do loadVar t (← asAddr (tmps.getD p Go.undef))

theorem results_eq (fn : Func) (tmps : Array Value) : results fn tmps = (do
    let vs ← fn.results.mapM (resV tmps)
    pure (if h : vs.size = 1 then vs[0] else .tuple vs)) := by
  unfold results
  congr 1

theorem result_ok (hE : EnvOk P E) {B : List Seg} {d : Seg} {al : Nat → Prop} {n : Nat} {ρ : Rho} {w : World} {s : Slots} {a : Act} (h : Rep E B0 ⟨d :: B, al, n, ρ, w⟩) (hs : SlotsOk ρ al s a) {r : ResultVar} {v : AV} (hv : resultOf E s (d :: B) r = some v) :
    (resV a.tmps r).run P w = .ok (concV ρ v) w ∧ v.ok al := by
  cases r with
  | tmp t =>
    simp only [resultOf, Option.some.injEq] at hv
    subst hv
    exact ⟨by rw [resV, hs.at_ t]; rfl, hs.ok t⟩
  | cell p t =>
    simp only [resultOf] at hv
    split at hv
    · rename_i r i off hr hp
      split at hv
      · rename_i e cs hob
        have hv' : (if isAggD r.desc then (if off + r.size ≤ cs.length then some (AV.agg ((cs.drop off).take r.size)) else none)
            else (match cs[off]? with
              | some x => some (.c x)
              | none => none)) = some v := by
          split at hv
          · rename_i ha
            split at hv <;> cases hv
            rename_i hle
            rw [if_pos ha, if_pos hle]
          · rename_i ha
            split at hv <;> cases hv
            rename_i c hc
            rw [if_neg ha, hc]
        obtain ⟨h1, h2⟩ := loadVar_run h hE hs hr hob hv'
        refine ⟨?_, h2⟩
        have hat := hs.at_ p
        rw [hp] at hat
        simp only [resV, Sem.run_bind, hat, concV, conc, asAddr, Sem.run_pure, Result.andThen_ok]
        exact h1
      · cases hv
    · cases hv

theorem results_ok (hE : EnvOk P E) {B : List Seg} {d : Seg} {al : Nat → Prop} {n : Nat} {ρ : Rho} {w : World} {s : Slots} {a : Act} (h : Rep E B0 ⟨d :: B, al, n, ρ, w⟩) (hs : SlotsOk ρ al s a) :
    ∀ (rs : List ResultVar) (l : List AC), resultsOf E s (d :: B) rs = some l → (rs.mapM (resV a.tmps)).run P w = .ok (concs ρ l) w ∧ (∀ c ∈ l, c.ok al) ∧ l.length = rs.length
  | [], l, hl => by
    simp only [resultsOf, Option.some.injEq] at hl
    subst hl
    exact ⟨rfl, fun _ hc => (by cases hc), rfl⟩
  | r :: rs, l, hl => by
    simp only [resultsOf] at hl
    split at hl
    · rename_i x l' h1 h2
      simp only [Option.some.injEq] at hl; subst hl
      obtain ⟨e1, k1⟩ := result_ok hE h hs h1
      obtain ⟨e2, k2, k3⟩ := results_ok hE h hs rs l' h2
      refine ⟨?_, ?_, by simp [k3]⟩
      · rw [List.mapM_cons]
        simp only [Sem.run_bind, e1, e2, Result.andThen_ok, Sem.run_pure]
        rfl
      · intro c hc
        cases hc with
        | head => exact k1
        | tail _ hc => exact k2 c hc
    · cases hl

theorem final_ok (hE : EnvOk P E) {B : List Seg} {d : Seg} {al : Nat → Prop} {n : Nat} {ρ : Rho} {w : World} {s : Slots} {a : Act} (h : Rep E B0 ⟨d :: B, al, n, ρ, w⟩) (hs : SlotsOk ρ al s a) {fn : Func} {v : AV} (hv : finalOf E s (d :: B) fn.results.toList = some v) :
    (results fn a.tmps).run P w = .ok (concV ρ v) w ∧ v.ok al := by
  have hmany : ∀ l, resultsOf E s (d :: B) fn.results.toList = some l → l.length ≠ 1 → (results fn a.tmps).run P w = .ok (.tuple (concs ρ l).toArray) w ∧ ∀ c ∈ l, c.ok al := by
    intro l hl hne
    obtain ⟨h1, h2, h3⟩ := results_ok hE h hs _ _ hl
    refine ⟨?_, h2⟩
    rw [results_eq, Array.mapM_eq_mapM_toList]
    simp only [Sem.run_bind, Sem.run_map]
    rw [h1]
    have hsz : ¬ (concs ρ l).length = 1 := by rw [length_concs]; exact hne
    simp [hsz]
  unfold finalOf at hv
  split at hv
  · rename_i r hr
    obtain ⟨h1, h2⟩ := result_ok hE h hs hv
    refine ⟨?_, h2⟩
    rw [results_eq, Array.mapM_eq_mapM_toList, hr]
    simp only [Sem.run_bind, Sem.run_map, List.mapM_cons, List.mapM_nil]
    rw [h1]
    simp
  · rename_i rs hne
    split at hv
    · rename_i l hl
      simp only [Option.some.injEq] at hv; subst hv
      obtain ⟨_, _, h3⟩ := results_ok hE h hs _ _ hl
      have hlen : l.length ≠ 1 := fun e => by
        rw [e] at h3
        match hrs : fn.results.toList, h3 with
        | [r], _ => exact hne r hrs
      obtain ⟨h1, h2⟩ := hmany l hl hlen
      exact ⟨h1, h2⟩
    · cases hv

theorem call_step (hE : EnvOk P E) {rec : CodeF} (hrec : CodeOk P E B0 rec) : CallOk P E B0 (evCall E rec) := by
  intro f args B d n v d' n' al ρ w hev h hargs
  simp only [evCall] at hev
  split at hev
  · rename_i fn hfn
    have hP := hE.fns f fn hfn
    have hin : ∀ (l : List (Nat × Func)), assoc l f = some fn → (f, fn) ∈ l := by
      intro l
      induction l with
      | nil => intro h; simp [assoc] at h
      | cons p l ih =>
        obtain ⟨j, g⟩ := p
        intro h
        simp only [assoc] at h
        by_cases e : (j == f) = true
        · rw [if_pos e] at h
          simp only [Option.some.injEq] at h
          have := beq_iff_eq.1 e
          subst this; subst h; simp
        · rw [if_neg e] at h; exact List.mem_cons_of_mem _ (ih h)
    have hall := List.all_eq_true.1 hE.names (f, fn) (hin _ hfn)
    simp only at hall
    split at hev
    · rename_i c hc
      rw [hc] at hall
      simp only [Bool.and_eq_true, bne_iff_ne] at hall
      split at hev
      · rename_i hle
        refine ⟨⟨fn, hP, by rw [hc]; rfl, by simpa using hall.2⟩, ?_⟩
        have main : ∀ x s1 d1 n1, (x = AX.norm ∨ x = AX.ret) → rec c B ⟨fn.ntmps, argSlots args 0⟩ d n = some (x, s1, d1, n1) → finalOf E s1 (d1 :: B) fn.results.toList = some v → d1 = d' → n1 = n' →
            Calls P f (args.map (concV ρ)).toArray w fun e w' => ∃ δ ρ' al', d' = δ ++ d ∧ Step E B0 (In δ) ⟨d :: B, al, n, ρ, w⟩ ⟨d' :: B, al', n', ρ', w'⟩ ∧ v.ok al' ∧ e = .returned (concV ρ' v) := by
          intro x s1 d1 n1 hx hrun hfin hd1 hn1
          subst hd1; subst hn1
          refine calls_of_wp hP hc ?_
          have hs : SlotsOk ρ al ⟨fn.ntmps, argSlots args 0⟩ { tmps := (args.map (concV ρ)).toArray ++ Array.replicate (fn.ntmps - (args.map (concV ρ)).toArray.size) Go.undef, defers := [] } := by
            refine ⟨by simp; omega, fun t => ?_, fun t => ?_⟩
            · simp only [Slots.get, sfind_args, Nat.zero_le, if_true, Nat.sub_zero]
              by_cases ht : t < args.length
              · simp [ht, Array.getElem?_append]
              · rw [List.getElem?_eq_none (by omega)]
                simp only [Option.getD_none, concV, conc]
                simp only [Array.getD_eq_getD_getElem?, Array.getElem?_append, List.size_toArray, List.length_map, ht, if_false, Array.getElem?_replicate]
                split <;> rfl
            · simp only [Slots.get, sfind_args, Nat.zero_le, if_true, Nat.sub_zero]
              cases hg : args[t]? with
              | none => trivial
              | some u => exact hargs u (List.mem_of_getElem? hg)
          refine hrec c B _ d n x s1 d1 n1 al ρ w _ _ hrun hall.1 h hs ?_
          intro δ ρ1 al1 w1 a1 hd hst hs1 hdf
          obtain ⟨h1, h2⟩ := final_ok hE hst.rep hs1 hfin
          rcases hx with rfl | rfl
          · exact ⟨hdf, _, h1, δ, ρ1, al1, hd, hst, h2, rfl⟩
          · exact ⟨hdf, _, h1, δ, ρ1, al1, hd, hst, h2, rfl⟩
        split at hev
        · rename_i s1 d1 n1 hrun
          split at hev <;> cases hev
          rename_i hfin
          exact main _ s1 d' n' (.inl rfl) hrun hfin rfl rfl
        · rename_i s1 d1 n1 hrun
          split at hev <;> cases hev
          rename_i hfin
          exact main _ s1 d' n' (.inr rfl) hrun hfin rfl rfl
        · cases hev
      · cases hev
    · cases hev
  · cases hev

theorem ev_ok (hE : EnvOk P E) : ∀ k, CodeOk P E B0 (ev E k) ∧ RoundsOk P E B0 (ev E k) k
  | 0 => ⟨fun c B s d n x s' d' n' al ρ w a Q hev => (by cases hev), fun c B s d n x s' d' n' al ρ w a Q hev => (by cases hev)⟩
  | k + 1 => by
    obtain ⟨h1, h2⟩ := ev_ok hE k
    exact ⟨code_step hE (call_step hE h1) h1 h2, rounds_step hE h1 h2⟩

/-- THE EVALUATOR IS SOUND. -/
theorem evFn_ok (hE : EnvOk P E) (k : Nat) : CallOk P E B0 (evFn E k) := call_step hE (ev_ok hE k).1

theorem rep_nil (E : Env) (w : World) (hmem : ∀ b o v, E.mem b o = some v → w.cell? ⟨b, o, none⟩ = some v) : Rep E w.heap.size ⟨[[]], fun _ => False, 0, fun _ => (0, 0), w⟩ where
  obj i o ho := by simp [get, look] at ho
  lo i o ho := by simp [get, look] at ho
  inj i j o p ho := by simp [get, look] at ho
  al i o ho := by simp [get, look] at ho
  lt i hi := hi.elim
  base := Nat.le_refl _
  mem b o v hv := by
    refine ⟨?_, hmem b o v hv⟩
    have := hmem b o v hv
    rcases Nat.lt_or_ge b w.heap.size with hl | hl
    · exact hl
    · simp only [World.cell?, Array.getElem?_eq_none hl] at this
      cases this

/-- A call with plain arguments, from nothing. -/
theorem evFn_calls (hE : EnvOk P E) {k f : Nat} {args : List AV} {v : AV} {d : Seg} {n : Nat} (hev : evFn E k f args [] [] 0 = some (v, d, n)) (hplain : ∀ x ∈ args, x.ok fun _ => False) (ρ0 : Rho) (w : World) (hmem : ∀ b o v, E.mem b o = some v → w.cell? ⟨b, o, none⟩ = some v) :
    Calls P f (args.map (concV ρ0)).toArray w fun e w' => ∃ ρ al, Rep E w.heap.size ⟨[d], al, n, ρ, w'⟩ ∧ Below w.heap.size w w' ∧ e = .returned (concV ρ v) := by
  have he : args.map (concV ρ0) = args.map (concV fun _ => (0, 0)) := List.map_congr_left fun x hx => concV_agree (al := fun _ => False) (fun i hi => hi.elim) (hplain x hx)
  rw [he]
  refine (evFn_ok (B0 := w.heap.size) hE k f args [] [] 0 v d n _ _ w hev (rep_nil E w hmem) hplain).2.mono fun e w' ⟨δ, ρ', al', hd, hst, hok, he⟩ => ?_
  refine ⟨ρ', al', hst.rep, ?_, he⟩
  exact ⟨hst.misc.1, hst.misc.2.1, hst.misc.2.2, hst.size, fun b hb => hst.frame b hb (fun i hi hi0 => absurd hi0 (Nat.not_lt_zero _))⟩

end
end Go.Proofs.Ytdpielghjaehbaa.Ev
