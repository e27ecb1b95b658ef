/- A go statement of the holder's, as a rule of the walk; regions in which three operations may come up in any order. -/
import Derived.Test.YtcibnfjpagmdaaaWay
set_option linter.unusedSimpArgs false
set_option linter.unusedVariables false
namespace Go.TX
open Go.Conc

section
variable {P : Program} {c : Nat} {z : Value} {still : List (Addr × Value)} {Q : Goroutine → Prop} {b : Frame} {a : Act} {k : List Item} {cs : List Frame} {ops : Array Oper} {i : Nat} {rest : List Nat} {o : Oper}

/-- A go statement: the child is on its way to a seat. -/
theorem x_go {Fin : Machine → Trace → Prop} {σ : Cfg} {w : World} {f : FuncId} {x : Operand} {cap : Array Value} (hdl : σ.dl = 0) (ho : ops[i]? = some o) (hw : Region.wanted o (yielded ops a.tmps) = true) (hk : (b.kind == CallKind.early) = false)
    (hop : o.op = .go { callee := .value x, args := #[], argTypes := #[] }) (hx : a.eval x = .func (.func f) #[] cap) (hway : Way P false c z still Q (born P (dlit f cap)))
    (hK : ∀ p ∈ still, w.cell? p.1 = some p.2) (hc : ∃ k, w.heap[c]? = some (.chan 0 #[] false k k false)) (hne : ∀ i s', σ.seat i = some s' → s'.c ≠ c)
    (hX : ∀ gm, Q gm → X P Fin (σ.hired ⟨c, z, gm, still⟩) (G (b.at (a.put o.dst undef) (.inRegion ops rest :: k)) cs) w) : X P Fin σ (G (b.at a (.inRegion ops (i :: rest) :: k)) cs) w := by
  obtain ⟨gm, n, h1, h2⟩ := hway
  have hr : ∀ w, (execOp a.eval o).run P w = .ok (.spawn (dlit f cap)) w := fun w => by
    unfold execOp
    simp [hop, resolve, Deferred.ofValue, hx, dlit]
  have he : ∀ w, (execOp a.eval o).events P w #[] = #[] := fun w => by
    unfold execOp
    simp [hop, resolve, Deferred.ofValue, hx]
  refine X_hire (child := born P (dlit f cap)) (s := ⟨c, z, gm, still⟩) hdl rfl (fun w => ?_) h1 hK hc hne (hX gm h2)
  rw [stepG_spawn ho hw (neq_early hk) (hr w) rfl]
  unfold listed
  rw [he, seen_none]
end

section
variable {P : Program} {J : Judge P} {σ : Cfg} {w : World} {a : Act} {fn : FuncId} {ops : Array Oper} {md : Region.Mode} {S : Cfg → World → Prop} {X : Nat → Bool} {Q : Act → Cfg → World → Prop}
theorem anyX_three {i j k fuel : Nat} {listed : Array Bool} (hr : Region.ready md ops listed = [i, j, k])
    (h1 : OpX J fn ops i (fun a' σ' w' => (X i = false → S σ' w') ∧ AnyX J fn md ops Q S X fuel (listed.setIfInBounds i true) a' σ' w') a σ w)
    (h2 : OpX J fn ops j (fun a' σ' w' => (X j = false → S σ' w') ∧ AnyX J fn md ops Q S X fuel (listed.setIfInBounds j true) a' σ' w') a σ w)
    (h3 : OpX J fn ops k (fun a' σ' w' => (X k = false → S σ' w') ∧ AnyX J fn md ops Q S X fuel (listed.setIfInBounds k true) a' σ' w') a σ w) : AnyX J fn md ops Q S X (fuel + 1) listed a σ w :=
  anyX_all hr (by simp) fun x hx => by
    rcases List.mem_cons.1 hx with rfl | hx
    · exact h1
    · rcases List.mem_cons.1 hx with rfl | hx
      · exact h2
      · obtain rfl : x = k := by simpa using hx
        exact h3
end
end Go.TX
