/- regletlaw06.Grammars: nine texts, and what Read makes of each. -/
import Derived.Test.YtdpielghjaehbaaGreatLb
import Derived.Test.YtdpielghjaehbaaGreatTxg0
import Derived.Test.YtdpielghjaehbaaGreatTxg1
import Derived.Test.YtdpielghjaehbaaGreatTxg2
import Derived.Test.YtdpielghjaehbaaGreatTxg3
import Derived.Test.YtdpielghjaehbaaGreatTxg4
import Derived.Test.YtdpielghjaehbaaGreatTxg5
import Derived.Test.YtdpielghjaehbaaGreatTxg6
import Derived.Test.YtdpielghjaehbaaGreatTxg7
import Derived.Test.YtdpielghjaehbaaGreatTxg8
set_option linter.unusedSectionVars false
set_option linter.unusedSimpArgs false
set_option linter.unusedVariables false
namespace Go.Proofs.YtdpielghjaehbaaGreat.Ev
open Go.RowKit

variable {mem : Nat → Nat → Option Value} {B0 : Nat}

def gtexts : List AC := [.str text_g0, .str text_g1, .str text_g2, .str text_g3, .str text_g4, .str text_g5, .str text_g6, .str text_g7, .str text_g8]

def namesOf (g : List Ru) : List (List UInt8) := g.map Ru.name

/-- What is asked of a grammar. -/
structure GrOk (g : List Ru) : Prop where
  ne : g ≠ []
  len : g.length < 1000
  wf : ∀ r ∈ g, wfEx (namesOf g) r.ex = true

theorem GrOk.names {g : List Ru} (h : GrOk g) : (namesOf g).length ≤ 1000 := by
  have := h.len
  simp only [namesOf, List.length_map]; omega

/-- Read of this text. -/
def ReadsTo (mem : Nat → Nat → Option Value) (B0 : Nat) (text : List UInt8) (g : List Ru) : Prop :=
  ∀ d n, CallsA Tryz.prog (lenv mem) B0 6 [.c (.str text)] d n fun v d' n' => ∃ x, v = .c x ∧ isRules [d'] x g = true ∧ n ≤ n' ∧ Keeps d n d'

theorem gr_at : ∀ k, k < 9 → ∃ text g, gtexts[k]? = some (.str text) ∧ ReadsTo mem B0 text g ∧ GrOk g
  | 0, _ => ⟨text_g0, gram_g0, rfl, l_read run_g0, ⟨by simp [gram_g0], by decide, by decide⟩⟩
  | 1, _ => ⟨text_g1, gram_g1, rfl, l_read run_g1, ⟨by simp [gram_g1], by decide, by decide⟩⟩
  | 2, _ => ⟨text_g2, gram_g2, rfl, l_read run_g2, ⟨by simp [gram_g2], by decide, by decide⟩⟩
  | 3, _ => ⟨text_g3, gram_g3, rfl, l_read run_g3, ⟨by simp [gram_g3], by decide, by decide⟩⟩
  | 4, _ => ⟨text_g4, gram_g4, rfl, l_read run_g4, ⟨by simp [gram_g4], by decide, by decide⟩⟩
  | 5, _ => ⟨text_g5, gram_g5, rfl, l_read run_g5, ⟨by simp [gram_g5], by decide, by decide⟩⟩
  | 6, _ => ⟨text_g6, gram_g6, rfl, l_read run_g6, ⟨by simp [gram_g6], by decide, by decide⟩⟩
  | 7, _ => ⟨text_g7, gram_g7, rfl, l_read run_g7, ⟨by simp [gram_g7], by decide, by decide⟩⟩
  | 8, _ => ⟨text_g8, gram_g8, rfl, l_read run_g8, ⟨by simp [gram_g8], by decide, by decide⟩⟩
  | k + 9, h => absurd h (by omega)

theorem grammars_ok (d : Seg) (n : Nat) : CallsA Tryz.prog (lenv mem) B0 7 [] d n fun v d' n' => Keeps d n d' ∧ ∃ j, n ≤ j ∧ v = .c (.sl j 9) ∧ get [d'] j = some (.cells 9 gtexts) := by
  refine callsA_code lenv_ok none1_ok Tryz.func7 rfl (by decide) rfl rfl (by simp) fun hl _ Q hQ => ?_
  simp +decide -implicitDefEqProofs only [stp,code_seq,evWanted,evOp,val,absV,evBin,evConv,evBuiltin,cmpInt,vals,partsOf,isAggD,cellsOf,isAggV,Nat.reduceEqDiff,Nat.reduceLT,Nat.reduceBEq,Nat.reduceBNe,reduceCtorEq,if_true,if_false,reduceIte,forall_const,IntKind.bits,IntKind.signed,eq_self_iff_true,finalOf,resultOf,cellsGood,AC.isCell,senv_mem,lift, spliceAll,allFields,places,splice,List.take_zero,List.take_succ_cons,List.take_nil,List.drop_zero,List.drop_succ_cons,List.drop_nil,List.nil_append,List.append_nil,List.cons_append,List.all_cons,List.all_nil,Option.isSome_some,Nat.reduceAdd,Nat.reduceSub,Nat.reduceMul,Nat.reduceMod,Nat.reduceLeDiff,List.range,List.range.loop,List.map_cons,List.map_nil,pfind, Tryz.f7, lty3,lty4,lty5,lty9,lty22,lty33,lty25,lty34,lty23,lty36,lty40,lty98,lty96,lty93,lty95,lty54,lty38,lty31, lenv_mem, none1]
  refine hQ _ _ _ _ (.c (.sl n 9)) (by simp) ?_ ⟨(Keeps.refl _ _).cons (Nat.le_refl _), n, Nat.le_refl _, rfl, by rw [get_cons, if_pos rfl]; rfl⟩
  simp +decide -implicitDefEqProofs only [stp,code_seq,evWanted,evOp,val,absV,evBin,evConv,evBuiltin,cmpInt,vals,partsOf,isAggD,cellsOf,isAggV,Nat.reduceEqDiff,Nat.reduceLT,Nat.reduceBEq,Nat.reduceBNe,reduceCtorEq,if_true,if_false,reduceIte,forall_const,IntKind.bits,IntKind.signed,eq_self_iff_true,finalOf,resultOf,cellsGood,AC.isCell,senv_mem,lift, Tryz.f7]

end Go.Proofs.YtdpielghjaehbaaGreat.Ev
