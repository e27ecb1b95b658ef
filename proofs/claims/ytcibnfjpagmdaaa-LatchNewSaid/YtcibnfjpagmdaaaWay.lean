/- The way to a seat, step by step; the way out. -/
import Derived.Test.YtcibnfjpagmdaaaPub
set_option linter.unusedSimpArgs false
set_option linter.unusedVariables false
namespace Go.TX
open Go.Conc
open Go.ConcN (upd upd_ne upd_same)

theorem nx_iface {ρ : Operand → Value} {o : Oper} {t : TypeId} {x : Operand} (h : o.op = .makeInterface t x) : Nw (execOp ρ o) := by
  unfold execOp
  simp only [h]
  unfold Instr.makeInterface
  exact Nw_bind (Nw_bind (nw_underlying _) fun d => by split <;> trivial) fun _ => trivial
theorem nx_panic {ρ : Operand → Value} {o : Oper} {x : Operand} {t : TypeId} {v : Value} (h : o.op = .panic x) (hx : ρ x = .iface t v) : Nw (execOp ρ o) := by
  unfold execOp
  simp only [h, hx]
  exact Nw_bind trivial fun _ => trivial

/-- Memory has grown, and nothing that was has turned. -/
structure Bigger (w w' : World) : Prop where
  size : w.heap.size ≤ w'.heap.size
  old : ∀ b, b < w.heap.size → w'.heap[b]? = w.heap[b]?
theorem Bigger.refl (w : World) : Bigger w w := ⟨Nat.le_refl _, fun _ _ => rfl⟩
theorem Bigger.trans {a b c : World} (h : Bigger a b) (g : Bigger b c) : Bigger a c := ⟨Nat.le_trans h.size g.size, fun x hx => (g.old x (Nat.lt_of_lt_of_le hx h.size)).trans (h.old x hx)⟩
theorem Bigger.alloc (w : World) (o : Obj) : Bigger w (w.alloc o) := ⟨by unfold World.alloc; simp, fun b hb => by unfold World.alloc; simp [Array.getElem?_push, Nat.ne_of_lt hb]⟩
theorem Bigger.is {w w' : World} (h : Bigger w w') {b : Nat} {o : Obj} (hb : w.heap[b]? = some o) : w'.heap[b]? = some o := (h.old b (lt_of_get hb)).trans hb

/-- On its way to a seat at channel c; Q: of the record that it sits down with. -/
def Way (P : Program) (main : Bool) (c : Nat) (z : Value) (still : List (Addr × Value)) (Q : Goroutine → Prop) (g : Goroutine) : Prop := ∃ gm n, OnWay P main ⟨c, z, gm, still⟩ n g ∧ Q gm

section
variable {P : Program} {main : Bool} {c : Nat} {z : Value} {still : List (Addr × Value)} {Q : Goroutine → Prop} {b : Frame} {a : Act} {k : List Item} {cs : List Frame} {ops : Array Oper} {i : Nat} {rest : List Nat} {o : Oper}
theorem way_at (ho : ops[i]? = some o) (hw : Region.wanted o (yielded ops a.tmps) = true) (hk : (b.kind == CallKind.early) = false)
    (hr : ∀ w, (execOp a.eval o).run P w = .ok (.comm #[rcase c z] true (.recv false)) w) (he : ∀ w, (execOp a.eval o).events P w #[] = #[]) (hQ : Q (G (b.at a (.inRegion ops (i :: rest) :: k)) cs)) :
    Way P main c z still Q (G (b.at a (.inRegion ops (i :: rest) :: k)) cs) := ⟨_, 0, onWay_at ho hw hk hr he rfl, hQ⟩
theorem way_ctl {g g' : Goroutine} (hs : g.status = .running) (h : ∀ w, stepG P main g w = .go g' w #[]) (hn : Way P main c z still Q g') : Way P main c z still Q g := by
  obtain ⟨gm, n, h1, h2⟩ := hn
  exact ⟨gm, n + 1, onWay_ctl hs h h1, h2⟩
theorem way_op (v : Value) (ho : ops[i]? = some o) (hw : Region.wanted o (yielded ops a.tmps) = true) (hk : (b.kind == CallKind.early) = false)
    (hr : ∀ w, (execOp a.eval o).run P w = .ok (.value v) w) (he : ∀ w, (execOp a.eval o).events P w #[] = #[]) (hn : Way P main c z still Q (G (b.at (a.put o.dst v) (.inRegion ops rest :: k)) cs)) :
    Way P main c z still Q (G (b.at a (.inRegion ops (i :: rest) :: k)) cs) := by
  obtain ⟨gm, n, h1, h2⟩ := hn
  exact ⟨gm, n + 1, onWay_op v ho hw hk hr he h1, h2⟩
theorem way_load (ad : Addr) (v : Value) (ho : ops[i]? = some o) (hw : Region.wanted o (yielded ops a.tmps) = true) (hk : (b.kind == CallKind.early) = false)
    (hm : (ad, v) ∈ still) (hr : ∀ w, w.cell? ad = some v → (execOp a.eval o).run P w = .ok (.value v) w) (hq : (P.funcs[b.fn]?).any (·.norace) = false) (he : ∀ w, w.cell? ad = some v → (execOp a.eval o).events P w #[] = #[⟨.cell ad, false, false⟩])
    (hn : Way P main c z still Q (G (b.at (a.put o.dst v) (.inRegion ops rest :: k)) cs)) : Way P main c z still Q (G (b.at a (.inRegion ops (i :: rest) :: k)) cs) := by
  obtain ⟨gm, n, h1, h2⟩ := hn
  exact ⟨gm, n + 1, onWay_load ad v ho hw hk hm hr (fun w hw => by unfold listed; rw [he w hw]; simp [seen, hq]) h1, h2⟩
theorem way_regionEnd (h : Way P main c z still Q (G (b.at a k) cs)) : Way P main c z still Q (G (b.at a (.inRegion ops [] :: k)) cs) := way_ctl rfl (fun _ => stepG_region_end) h
theorem way_seq {x y : Code} (h : Way P main c z still Q (G (b.at a (.code x :: .code y :: k)) cs)) : Way P main c z still Q (G (b.at a (.code (.seq x y) :: k)) cs) := way_ctl rfl (fun _ => stepG_seq) h
theorem way_region {id : Nat} (h : Way P main c z still Q (G (b.at a (.inRegion ops (List.range ops.size) :: k)) cs)) : Way P main c z still Q (G (b.at a (.code (.region id ops false) :: k)) cs) := way_ctl rfl (fun _ => stepG_region) h
theorem way_defer {f : FuncId} {x : Operand} {cap : Array Value} (ho : ops[i]? = some o) (hw : Region.wanted o (yielded ops a.tmps) = true) (hk : (b.kind == CallKind.early) = false)
    (hop : o.op = .defer { callee := .value x, args := #[], argTypes := #[] }) (hx : a.eval x = .func (.func f) #[] cap) (h : Way P main c z still Q (G (b.at (Act.put ⟨a.tmps, dlit f cap :: a.defers⟩ o.dst undef) (.inRegion ops rest :: k)) cs)) :
    Way P main c z still Q (G (b.at a (.inRegion ops (i :: rest) :: k)) cs) := way_ctl rfl (fun _ => stepG_defer_lit ho hw (neq_early hk) hop hx) h

/-- A call is entered. -/
theorem y_enter {J : Judge P} {σ : Cfg} {w : World} {f : FuncId} {fn : Func} {xs : Array Operand} {ts : Array TypeId} (ho : ops[i]? = some o) (hw : Region.wanted o (yielded ops a.tmps) = true) (hk : (b.kind == CallKind.early) = false) (hop : o.op = .call { callee := .value (.func f), args := xs, argTypes := ts })
    (hf : P.funcs[f]? = some fn) (hname : (fn.name == "runtime.NumGoroutine") = false) (hb : fn.body.isNone = false) {args : Array Value} (hargs : xs.map a.eval = args) (h : J.Y σ (G (Frame.enter P f args .normal) (b.at a (.inRegion ops (i :: rest) :: k) :: cs)) w) :
    J.Y σ (G (b.at a (.inRegion ops (i :: rest) :: k)) cs) w := by
  subst hargs
  refine J.silent (fun w => ?_) h
  rw [stepG_enter ho hw (neq_early hk) (run_call_body hop hf hname hb)]
  have : listed P b.fn a o w = #[] := by unfold listed; rw [events_call_body hop hf hname hb]; exact seen_none P _
  rw [this]

/-- The holder's give, as a rule of the walk: its own operation is the send; behind it, it goes to a seat. -/
theorem x_send {Fin : Machine → Trace → Prop} {σ : Cfg} {w : World} {j : Nat} {sj : SeatX} {v z' : Value} (hj : σ.seat j = some sj) (hjh : j ≠ σ.h) (hdl : σ.dl = 0) (ho : ops[i]? = some o) (hw : Region.wanted o (yielded ops a.tmps) = true) (hk : (b.kind == CallKind.early) = false)
    (hr : ∀ w, (execOp a.eval o).run P w = .ok (.comm #[scase sj.c v z'] true .send) w) (he : ∀ w, (execOp a.eval o).events P w #[] = #[]) (hafter : Way P (σ.h == 0) c z still Q (G (b.at (a.put o.dst undef) (.inRegion ops rest :: k)) cs))
    (hK : ∀ p ∈ still, w.cell? p.1 = some p.2) (hc : ∃ k, w.heap[c]? = some (.chan 0 #[] false k k false)) (hne : ∀ i s', σ.seat i = some s' → s'.c ≠ c)
    (hX : ∀ gm k, Q gm → X P Fin (σ.gave j (some ⟨c, z, gm, still⟩)) (Go.Conc.served sj.g v) (w.setChan sj.c 0 #[] false (k + 1) (k + 1) false)) : X P Fin σ (G (b.at a (.inRegion ops (i :: rest) :: k)) cs) w := by
  have hfin : (b.at a (.inRegion ops (i :: rest) :: k)).finish undef = b.at (a.put o.dst undef) (.inRegion ops rest :: k) := by rw [Frame.finish_at, ho]; rfl
  obtain ⟨gm, n, h1, h2⟩ := hafter
  refine X_give (z' := z') (g₂ := G (b.at a (.inRegion ops (i :: rest) :: k)) cs) hj hjh hdl rfl (fun w => ?_) (some ⟨c, z, gm, still⟩) ?_ fun k => hX gm k h2
  · rw [stepG_comm ho hw (neq_early hk) (hr w)]
    unfold listed
    rw [he, seen_none]
  · show AfterX P σ w (G ((b.at a (.inRegion ops (i :: rest) :: k)).finish undef) cs) _
    rw [hfin]; exact ⟨⟨n, h1⟩, hK, hc, hne⟩
/-- .. behind it, it only leaves. -/
theorem x_sendQ {Fin : Machine → Trace → Prop} {σ : Cfg} {w : World} {j : Nat} {sj : SeatX} {v z' : Value} (hj : σ.seat j = some sj) (hjh : j ≠ σ.h) (hdl : σ.dl = 0) (ho : ops[i]? = some o) (hw : Region.wanted o (yielded ops a.tmps) = true) (hk : (b.kind == CallKind.early) = false)
    (hr : ∀ w, (execOp a.eval o).run P w = .ok (.comm #[scase sj.c v z'] true .send) w) (he : ∀ w, (execOp a.eval o).events P w #[] = #[]) (h0 : 0 < σ.h) (hafter : ∃ n, QuitsD P n 0 (G (b.at (a.put o.dst undef) (.inRegion ops rest :: k)) cs))
    (hX : ∀ k, X P Fin (σ.gave j none) (Go.Conc.served sj.g v) (w.setChan sj.c 0 #[] false (k + 1) (k + 1) false)) : X P Fin σ (G (b.at a (.inRegion ops (i :: rest) :: k)) cs) w := by
  have hfin : (b.at a (.inRegion ops (i :: rest) :: k)).finish undef = b.at (a.put o.dst undef) (.inRegion ops rest :: k) := by rw [Frame.finish_at, ho]; rfl
  refine X_give (z' := z') (g₂ := G (b.at a (.inRegion ops (i :: rest) :: k)) cs) hj hjh hdl rfl (fun w => ?_) none ?_ hX
  · rw [stepG_comm ho hw (neq_early hk) (hr w)]
    unfold listed
    rw [he, seen_none]
  · show AfterX P σ w (G ((b.at a (.inRegion ops (i :: rest) :: k)).finish undef) cs) none
    rw [hfin]; exact ⟨h0, hafter⟩
end
end Go.TX
