/-
  The abstract machine, part 21d: the trace of a region in the order of evaluation.
-/
import Derived.Test.YtinckcpmkocakaaAmD2
set_option linter.unusedVariables false
set_option linter.unusedSimpArgs false
set_option linter.unusedSectionVars false
namespace Go.Proofs.Ytinckcpmkocakaa.AM
open Go Go.RowKit

/-- How a guard decides. -/
def GOk (ops : List Oper) (o : Oper) (S : St) (run : Bool) : Prop :=
  (o.guard = none ∧ run = true) ∨ ∃ j want p t, o.guard = some (j, want) ∧ look? ops j = some p ∧ p.dst = some t ∧ ((∃ b, S.get t = .lit b ∧ run = (b == want)) ∨ (S.get t = .v (.tup []) ∧ run = false))
def QuietOk (P : Program) (ob : List (Nat × AObj)) (o : Oper) (S : St) (d : D) : Prop :=
  ∃ d0, Comes' P ob S.ev o.op d0 ∧ (d = d0 ∨ ∃ c, d0 = .v (.bool c) ∧ d = .lit c)
def OpOk (P : Program) (R : List (Nat × AObj) → List D → Prop) (ops : List Oper) (anc : List (Nat × Nat)) (i : Nat) (r : List Nat) (o : Oper) (S : St) (e : Eff) : Prop :=
  ∃ run, GOk ops o S run ∧ (run = false → e = .q o.dst (.v (.tup []))) ∧ (run = true →
    (loud o.op = true ∧ LoudOk P R o S e) ∨
    (loud o.op = false ∧ ∃ d, e = .q o.dst d ∧ ((freeOf ops anc i r = none ∧ QuietOk P S.ob o S d) ∨ ∃ ks, freeOf ops anc i r = some ks ∧ (∀ x ∈ o.op.operands.toList, noMent ks (S.ev x) = true) ∧ noMent ks d = true ∧ QuietOk P [] o S d)))
def TrOk (P : Program) (R : List (Nat × AObj) → List D → Prop) (ops : List Oper) (anc : List (Nat × Nat)) : List Nat → St → List Eff → Prop
  | [], _, [] => True
  | i :: r, S, e :: es => (∃ o, look? ops i = some o ∧ OpOk P R ops anc i r o S e) ∧ TrOk P R ops anc r (e.app S) es
  | _, _, _ => False
def foldE (es : List Eff) (S : St) : St := es.foldl (fun S e => e.app S) S
section
variable {P : Program} {R : List (Nat × AObj) → List D → Prop} (hT : tableOf P = T)
include hT
theorem noMent_lit (ks : List Nat) (b : Bool) : noMent ks (.lit b) = true := by simp [noMent, mentions]
theorem dRes_eff {g : Bool} {dst : Option Nat} {S : St} {d : D} {K : St → Prop} (h : dRes (std P R) g dst S d K) : ∃ d', K ((Eff.q dst d').app S) ∧ (d' = d ∨ ∃ c, d = .v (.bool c) ∧ d' = .lit c) := by
  unfold dRes at h
  split at h
  · split at h
    · exact ⟨_, h, .inl rfl⟩
    · rename_i c; exact ⟨.lit c, h c rfl, .inr ⟨c, rfl, rfl⟩⟩
    · exact h.elim
  · exact ⟨_, h, .inl rfl⟩
theorem d_trace (ops : List Oper) (anc : List (Nat × Nat)) : ∀ (π : List Nat) (S : St) (K : St → Prop), dWp (std P R) ops anc π S K → ∃ es, TrOk P R ops anc π S es ∧ K (foldE es S)
  | [], S, K, h => ⟨[], trivial, h⟩
  | i :: r, S, K, h => by
    unfold dWp at h
    split at h
    · rename_i o ho
      have skip : GOk ops o S false → dWp (std P R) ops anc r (S.put o.dst (.v (.tup []))) K → ∃ es, TrOk P R ops anc (i :: r) S es ∧ K (foldE es S) := fun hg h => by
        obtain ⟨es, h1, h2⟩ := d_trace ops anc r _ K h
        exact ⟨.q o.dst (.v (.tup [])) :: es, ⟨⟨o, ho, false, hg, fun _ => rfl, fun h => (nomatch h)⟩, h1⟩, h2⟩
      have run : GOk ops o S true → (match loud o.op with
          | true => eWp (std P R) o S fun S => dWp (std P R) ops anc r S K
          | false => match freeOf ops anc i r with
            | none => qWp (std P R) S.ob S.ev o.op fun d => dRes (std P R) (isGuard i ops) o.dst S d fun S => dWp (std P R) ops anc r S K
            | some ks => match (o.op.operands.toList.map S.ev).all (noMent ks) with
              | true => qWp (std P R) [] S.ev o.op fun d => match noMent ks d with
                | true => dRes (std P R) (isGuard i ops) o.dst S d fun S => dWp (std P R) ops anc r S K
                | false => False
              | false => False) → ∃ es, TrOk P R ops anc (i :: r) S es ∧ K (foldE es S) := fun hg h => by
        split at h
        · rename_i hl
          obtain ⟨e, h1, h2⟩ := loud_eff hl h
          obtain ⟨es, h3, h4⟩ := d_trace ops anc r _ K h1
          exact ⟨e :: es, ⟨⟨o, ho, true, hg, fun h => (nomatch h), fun _ => .inl ⟨hl, h2⟩⟩, h3⟩, h4⟩
        · rename_i hl
          split at h
          · rename_i hf
            obtain ⟨d, h1, h2⟩ := q_sound hT _ _ _ _ h
            obtain ⟨d', h3, h4⟩ := dRes_eff hT h1
            obtain ⟨es, h5, h6⟩ := d_trace ops anc r _ K h3
            exact ⟨.q o.dst d' :: es, ⟨⟨o, ho, true, hg, fun h => (nomatch h), fun _ => .inr ⟨hl, d', rfl, .inl ⟨hf, d, h2, h4⟩⟩⟩, h5⟩, h6⟩
          · rename_i ks hf
            split at h
            · rename_i hm
              obtain ⟨d, h1, h2⟩ := q_sound hT _ _ _ _ h
              split at h1
              · rename_i hd
                obtain ⟨d', h3, h4⟩ := dRes_eff hT h1
                obtain ⟨es, h5, h6⟩ := d_trace ops anc r _ K h3
                have hd' : noMent ks d' = true := by
                  rcases h4 with rfl | ⟨c, _, rfl⟩
                  · exact hd
                  · exact noMent_lit hT ks c
                exact ⟨.q o.dst d' :: es, ⟨⟨o, ho, true, hg, fun h => (nomatch h), fun _ => .inr ⟨hl, d', rfl, .inr ⟨ks, hf, fun x hx => by
                  have := List.all_eq_true.1 hm _ (List.mem_map_of_mem (f := S.ev) hx); exact this, hd', d, h2, h4⟩⟩⟩, h5⟩, h6⟩
              · exact h1.elim
            · exact h.elim
      unfold dGuard at h
      split at h
      · rename_i hg
        exact run (.inl ⟨hg, rfl⟩) h
      · rename_i j want hg
        split at h
        · rename_i p hp
          split at h
          · rename_i t ht
            split at h
            · rename_i b hb
              split at h
              · rename_i e
                exact run (.inr ⟨j, want, p, t, hg, hp, ht, .inl ⟨b, hb, e.symm⟩⟩) h
              · rename_i e
                exact skip (.inr ⟨j, want, p, t, hg, hp, ht, .inl ⟨b, hb, e.symm⟩⟩) h
            · rename_i hb
              exact skip (.inr ⟨j, want, p, t, hg, hp, ht, .inr ⟨hb, rfl⟩⟩) h
            · exact h.elim
          · exact h.elim
        · exact h.elim
    · exact h.elim
end
end Go.Proofs.Ytinckcpmkocakaa.AM
