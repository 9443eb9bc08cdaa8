/- sense: what rules derive: the least of what is closed under the rules. -/
import Derived.Test.YtdpielghjaehbaaGreatSo
set_option linter.unusedSectionVars false
set_option linter.unusedSimpArgs false
set_option linter.unusedVariables false
namespace Go.Proofs.YtdpielghjaehbaaGreat.Ev

/-- The rule of a name: the first one. -/
def ruleOf (nm : List UInt8) : List Ru → Option Ex
  | [] => none
  | r :: g => if r.name = nm then some r.ex else ruleOf nm g

theorem findIx_none {nm : List UInt8} : ∀ {g : List Ru} {k : Nat}, ruleOf nm g = none → findIx nm g k = -1
  | [], k, h => rfl
  | r :: g, k, h => by
    simp only [ruleOf] at h
    by_cases e : r.name = nm
    · rw [if_pos e] at h; cases h
    · rw [if_neg e] at h
      have hs : ¬ sameBytes r.name nm = true := fun x => e ((sameBytes_iff _ _).1 x)
      rw [findIx, if_neg hs]
      exact findIx_none h

theorem findIx_some {nm : List UInt8} {e : Ex} : ∀ {g : List Ru} {k : Nat}, ruleOf nm g = some e → ∃ i r, g[i]? = some r ∧ r.ex = e ∧ findIx nm g k = ((k + i : Nat) : Int)
  | [], k, h => by cases h
  | r :: g, k, h => by
    simp only [ruleOf] at h
    by_cases e1 : r.name = nm
    · rw [if_pos e1] at h
      simp only [Option.some.injEq] at h
      have hs : sameBytes r.name nm = true := (sameBytes_iff _ _).2 e1
      exact ⟨0, r, rfl, h, by rw [findIx, if_pos hs]; rfl⟩
    · rw [if_neg e1] at h
      have hs : ¬ sameBytes r.name nm = true := fun x => e1 ((sameBytes_iff _ _).1 x)
      obtain ⟨i, r', h1, h2, h3⟩ := findIx_some (k := k + 1) h
      refine ⟨i + 1, r', by simpa using h1, h2, ?_⟩
      rw [findIx, if_neg hs, h3]
      omega

section
variable (g : List Ru) (s : List UInt8) (utf : Bool)

/-- Closed under the rules. -/
def Closed (M : Kn) : Prop := ∀ nm e a x, ruleOf nm g = some e → den s utf M e a x → M nm a x

/-- A rule derives a part of the text, from a place to a place. -/
def Der (nm : List UInt8) (a x : Nat) : Prop := ∀ M : Kn, Closed g s utf M → M nm a x
end

section
variable {g : List Ru} {s : List UInt8} {utf : Bool}

theorem der_closed : Closed g s utf (Der g s utf) := fun nm e a x hr hd M hM => hM nm e a x hr (den_mono (fun nm' a' x' h => h M hM) e a x hd)

/-- What is known lies in what the rules derive: one step more does, too. -/
theorem der_step {M : Kn} (h : ∀ nm a x, M nm a x → Der g s utf nm a x) {nm : List UInt8} {e : Ex} (hr : ruleOf nm g = some e) {a x : Nat} (hd : den s utf M e a x) : Der g s utf nm a x :=
  der_closed nm e a x hr (den_mono h e a x hd)

/-- Where nothing more comes, all is there. -/
theorem der_done {M : Kn} {dom : List UInt8 → Nat → Prop} (h : ∀ nm a, dom nm a → ∀ e, ruleOf nm g = some e → ∀ M' : Kn, (∀ nm b x, dom nm b → (M' nm b x ↔ M nm b x)) → ∀ x, den s utf M' e a x → M nm a x) {nm : List UInt8} {a : Nat} (hd : dom nm a) {x : Nat} (hx : Der g s utf nm a x) : M nm a x := by
  have := hx (fun nm a x => dom nm a → M nm a x) fun nm' e a' x' hr hden hdom => by
    refine h nm' a' hdom e hr _ (fun nm b y hb => ?_) x' hden
    exact ⟨fun k => k hb, fun k _ => k⟩
  exact this hd

end

/-- How much is still to come. -/
noncomputable def pot (L K : Nat) (es : List KE) (M : Kn) : Nat := (K - es.length) * (L + 2) + (es.map fun e => missing L (M e.1 e.2.1.toNat)).sum

theorem missing_empty {L : Nat} {S : Nat → Prop} (h : ∀ x, ¬ S x) : missing L S = L + 1 := by
  unfold missing
  have : (List.range (L + 1)).filter (fun p => @decide (¬ S p) (Classical.propDecidable _)) = List.range (L + 1) := List.filter_eq_self.2 fun x _ => by simp [h x]
  rw [this]; simp

theorem missing_congr {L : Nat} {S T : Nat → Prop} (h : ∀ x, S x ↔ T x) : missing L S = missing L T := by
  have : S = T := funext fun x => propext (h x)
  rw [this]

/-- New keys with nothing: less is to come. -/
theorem pot_keys {L K : Nat} {es ex : List KE} {M : Kn} (hK : (es ++ ex).length ≤ K) (hex : ∀ e ∈ ex, ∀ x, ¬ M e.1 e.2.1.toNat x) : pot L K (es ++ ex) M + ex.length ≤ pot L K es M := by
  unfold pot
  rw [List.map_append, List.sum_append]
  have h1 : (ex.map fun e => missing L (M e.1 e.2.1.toNat)).sum = ex.length * (L + 1) := by
    clear hK
    induction ex with
    | nil => simp
    | cons e ex ih =>
      have := ih fun e' he' => hex e' (List.mem_cons_of_mem _ he')
      simp only [List.map_cons, List.sum_cons, List.length_cons, this, missing_empty (hex e (List.mem_cons_self ..)), Nat.succ_mul]
      omega
  rw [h1]
  rw [List.length_append] at hK ⊢
  have e2 : K - es.length = (K - (es.length + ex.length)) + ex.length := by omega
  rw [e2, Nat.add_mul]
  have e3 : ex.length * (L + 2) = ex.length * (L + 1) + ex.length := by rw [Nat.mul_succ]
  omega

theorem sum_lt {es : List KE} {f f' : KE → Nat} (h : ∀ e ∈ es, f' e ≤ f e) {e : KE} (he : e ∈ es) (hlt : f' e < f e) : (es.map f').sum < (es.map f).sum := by
  induction es with
  | nil => cases he
  | cons x es ih =>
    simp only [List.map_cons, List.sum_cons]
    have hx := h x (List.mem_cons_self ..)
    have hle : ∀ l : List KE, (∀ e ∈ l, f' e ≤ f e) → (l.map f').sum ≤ (l.map f).sum := by
      intro l
      induction l with
      | nil => intro _; simp
      | cons y l ih2 =>
        intro hl
        have h1 := hl y (List.mem_cons_self ..)
        have h2 := ih2 fun e he => hl e (List.mem_cons_of_mem _ he)
        simp only [List.map_cons, List.sum_cons]; omega
    rcases List.mem_cons.1 he with rfl | he
    · have := hle es fun e he => h e (List.mem_cons_of_mem _ he)
      omega
    · have := ih (fun e he => h e (List.mem_cons_of_mem _ he)) he
      omega

theorem missing_mono {L : Nat} {S T : Nat → Prop} (h : ∀ x, S x → T x) : missing L T ≤ missing L S := by
  by_cases e : ∃ x, x ≤ L ∧ T x ∧ ¬ S x
  · obtain ⟨x, h1, h2, h3⟩ := e
    exact Nat.le_of_lt (missing_lt h h1 h2 h3)
  · unfold missing
    refine Nat.le_of_eq ?_
    congr 1
    refine List.filter_congr fun x hx => ?_
    have hx' : x ≤ L := by simpa [Nat.lt_succ_iff] using hx
    have : T x ↔ S x := ⟨fun ht => Classical.byContradiction fun hs => e ⟨x, hx', ht, hs⟩, h x⟩
    simp [this]

/-- More known of a key: less is to come. -/
theorem pot_set {L K : Nat} {es : List KE} {M M' : Kn} (h : ∀ nm a x, M nm a x → M' nm a x) {e : KE} (he : e ∈ es) {x : Nat} (hx : x ≤ L) (h1 : M' e.1 e.2.1.toNat x) (h2 : ¬ M e.1 e.2.1.toNat x) : pot L K es M' < pot L K es M := by
  unfold pot
  have := sum_lt (f := fun e => missing L (M e.1 e.2.1.toNat)) (f' := fun e => missing L (M' e.1 e.2.1.toNat)) (fun e' _ => missing_mono (h _ _)) he (missing_lt (h _ _) hx h1 h2)
  omega

/-- There are no more keys than names and places. -/
theorem keys_le {NM : List (List UInt8)} {L : Nat} {ks : List (List UInt8 × Int)} (hn : ks.Nodup) (h1 : ∀ k ∈ ks, k.1 ∈ NM) (h2 : ∀ k ∈ ks, 0 ≤ k.2 ∧ k.2 ≤ L) : ks.length ≤ NM.length * (L + 1) := by
  have : ∀ k ∈ ks, k ∈ NM.flatMap fun nm => (List.range (L + 1)).map fun (a : Nat) => (nm, (a : Int)) := fun k hk => by
    refine List.mem_flatMap.2 ⟨k.1, h1 k hk, List.mem_map.2 ⟨k.2.toNat, ?_, ?_⟩⟩
    · have := h2 k hk; simp only [List.mem_range]; omega
    · have := h2 k hk
      have e : ((k.2.toNat : Nat) : Int) = k.2 := by omega
      rw [e]
  have hle : ∀ {l m : List (List UInt8 × Int)}, l.Nodup → (∀ x ∈ l, x ∈ m) → l.length ≤ m.length := by
    intro l
    induction l with
    | nil => intro m _ _; exact Nat.zero_le _
    | cons x l ih =>
      intro m hn hs
      obtain ⟨k1, k2⟩ := List.nodup_cons.1 hn
      have hx : x ∈ m := hs x (List.mem_cons_self ..)
      have := ih (m := m.erase x) k2 (fun y hy => (List.mem_erase_of_ne (by rintro rfl; exact k1 hy)).2 (hs y (List.mem_cons_of_mem _ hy)))
      rw [List.length_erase_of_mem hx] at this
      have := List.length_pos_of_mem hx
      simp only [List.length_cons]; omega
  have h3 := hle hn this
  have h4 : ∀ NM : List (List UInt8), (NM.flatMap fun nm => (List.range (L + 1)).map fun (a : Nat) => (nm, (a : Int))).length = NM.length * (L + 1) := by
    intro NM
    induction NM with
    | nil => simp
    | cons x l ih => simp only [List.flatMap_cons, List.length_append, List.length_map, List.length_range, ih, List.length_cons, Nat.succ_mul]; omega
  rw [h4] at h3; exact h3

theorem Known.len {s : List UInt8} {NM : List (List UInt8)} {d : Seg} {k : Nat} {es : List KE} {M : Kn} (h : Known s NM d k es M) : es.length ≤ NM.length * (s.length + 1) := by
  have := keys_le (L := s.length) h.keys (fun q hq => by obtain ⟨e, he, rfl⟩ := List.mem_map.1 hq; exact h.names e he) (fun q hq => by obtain ⟨e, he, rfl⟩ := List.mem_map.1 hq; exact h.at_ e he)
  simpa using this

theorem kfind_mem {nm : List UInt8} {q : Int} {es : List KE} (h : (nm, q) ∈ es.map keyOf) : ∃ e ∈ es, keyOf e = (nm, q) ∧ kfind nm q es = some (setOf e) := by
  cases hf : kfind nm q es with
  | none => exact absurd h (kfind_none hf)
  | some i =>
    obtain ⟨e, he, hk, hs⟩ := kfind_some hf
    exact ⟨e, he, hk, by rw [hs]⟩

theorem key_inj {es : List KE} (hn : (es.map keyOf).Nodup) {e e' : KE} (he : e ∈ es) (he' : e' ∈ es) (h : keyOf e = keyOf e') : e = e' := by
  induction es with
  | nil => cases he
  | cons x es ih =>
    simp only [List.map_cons, List.nodup_cons] at hn
    rcases List.mem_cons.1 he with h1 | h1 <;> rcases List.mem_cons.1 he' with h2 | h2
    · rw [h1, h2]
    · subst h1; exact absurd (h ▸ List.mem_map_of_mem h2) hn.1
    · subst h2; exact absurd (h ▸ List.mem_map_of_mem h1) hn.1
    · exact ih hn.2 h1 h2

theorem set_inj {es : List KE} (hn : (es.map setOf).Nodup) {e e' : KE} (he : e ∈ es) (he' : e' ∈ es) (h : setOf e = setOf e') : e = e' := by
  induction es with
  | nil => cases he
  | cons x es ih =>
    simp only [List.map_cons, List.nodup_cons] at hn
    rcases List.mem_cons.1 he with h1 | h1 <;> rcases List.mem_cons.1 he' with h2 | h2
    · rw [h1, h2]
    · subst h1; exact absurd (h ▸ List.mem_map_of_mem h2) hn.1
    · subst h2; exact absurd (h ▸ List.mem_map_of_mem h1) hn.1
    · exact ih hn.2 h1 h2

/-- Some ends more of one key. -/
def plus (M : Kn) (nm : List UInt8) (a : Nat) (T : Nat → Prop) : Kn := fun nm' a' x => M nm' a' x ∨ (nm' = nm ∧ a' = a ∧ T x)

theorem Kst.add {s : List UInt8} {utf : Bool} {NM : List (List UInt8)} {ix k : Nat} {d d' : Seg} {n : Nat} {es : List KE} {M : Kn} {gr : Bool} (h : Kst s utf NM ix k d es M gr) (hl : Live d n) {e : KE} (he : e ∈ es) {T : Nat → Prop} (hT : ∀ x, T x → x ≤ s.length)
    (hk : KeepsBut (setOf e) d n d') (hh : HoldsN d' (setOf e) (fun x => M e.1 e.2.1.toNat x ∨ T x)) : Kst s utf NM ix k d' es (plus M e.1 e.2.1.toNat T) gr := by
  obtain ⟨l1, l2, l3⟩ := h.live hl
  obtain ⟨n1, n2⟩ := h.set_ne he
  obtain ⟨c, hc, hb⟩ := h.known.obj
  refine ⟨by rw [SenseAt, hk ix l1 (fun x => n1 x.symm)]; exact h.sense, ⟨⟨c, by rw [hk k l2 (fun x => n2 x.symm)]; exact hc, hb⟩, h.known.stamps, h.known.ids, h.known.keys, fun e' he' => ?_, h.known.at_, h.known.names, ?_, ?_⟩⟩
  · by_cases hee : setOf e' = setOf e
    · have := set_inj h.known.ids he' he hee
      subst this
      refine hh.congr fun x => ?_
      simp [plus]
    · refine HoldsN.congr ((h.known.sets e' he').at_ (hk _ (l3 e' he') hee)) fun x => ?_
      simp only [plus]
      refine ⟨.inl, fun h' => h'.resolve_right ?_⟩
      rintro ⟨h1, h2, _⟩
      have a1 := h.known.at_ e' he'
      have a2 := h.known.at_ e he
      have : keyOf e' = keyOf e := by simp only [keyOf, h1, Prod.mk.injEq, true_and]; omega
      exact hee (by rw [key_inj h.known.keys he' he this])
  · rintro nm a x (hx | ⟨rfl, rfl, _⟩)
    · exact h.known.dom nm a x hx
    · refine List.mem_map.2 ⟨e, he, ?_⟩
      have a2 := h.known.at_ e he
      simp only [keyOf, Prod.mk.injEq, true_and]; omega
  · rintro nm a x (hx | ⟨_, _, hx⟩)
    · exact h.known.le nm a x hx
    · exact hT x hx

theorem keyCells_at {l : List (List UInt8 × Int)} {i : Nat} {x : List UInt8 × Int} (hx : l[i]? = some x) : List.take 2 (List.drop (i * 2) (l.flatMap fun x => [AC.str x.1, AC.int .i64 x.2])) = [.str x.1, .int .i64 x.2] ∧ i * 2 + 2 ≤ (l.flatMap fun x => [AC.str x.1, AC.int .i64 x.2]).length := by
  induction l generalizing i with
  | nil => simp at hx
  | cons y l ih =>
    cases i with
    | zero =>
      simp only [List.getElem?_cons_zero, Option.some.injEq] at hx
      subst hx
      simp
    | succ i =>
      have := ih (i := i) (by simpa using hx)
      have e : (i + 1) * 2 = i * 2 + 1 + 1 := by omega
      simp only [List.flatMap_cons, List.cons_append, List.nil_append, e, List.drop_succ_cons, List.length_cons] at this ⊢
      exact ⟨this.1, by omega⟩

end Go.Proofs.YtdpielghjaehbaaGreat.Ev
