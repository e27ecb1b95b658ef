/- Runs of bodies that make no access. -/
import Derived.Test.YtcibnfjpagmdaaaRun
set_option linter.unusedSimpArgs false
set_option linter.unusedVariables false
set_option maxRecDepth 100000
set_option maxHeartbeats 2000000
namespace Go.Proofs.Ytcibnfjpagmdaaa
open Go.TX Go.Conc Go.RowKit Go.MapKept

/-- Nobody makes an access; these blocks stand. -/
def quiet (facts : Nat → Option Obj) : Client where
  K := Unit
  S := Unit
  Inv := fun _ _ st log _ own w => log = [] ∧ (∀ j, (st j).lives = false) ∧ ∀ b o, facts b = some o → w.heap[b]? = some o ∧ ¬ own b
  stable := fun ⟨h1, h2, h3⟩ _ hs => ⟨h1, h2, fun b o hb => by
    obtain ⟨h4, h5⟩ := h3 b o hb
    obtain ⟨h6, h7⟩ := hs b (lt_of_get h4) h5
    exact ⟨h6.trans h4, h7⟩⟩

section
variable {Fin : Machine → Trace → Prop} {facts : Nat → Option Obj}
theorem CallsX.noPanic {P : Program} {J : Judge P} {f : FuncId} {args : Array Value} {σ : Cfg} {w : World} {R : Value → Cfg → World → Prop} {N : List PanicEntry → Cfg → World → Prop} (h : CallsX J f args σ w R) : CallsX J f args σ w R N :=
  fun c cs H _ => h c cs H fun _ _ _ x => x.elim

theorem quiet_body {j : Nat} {f : FuncId} {first cap : Array Value}
    (h : ∀ (t : Value) (σ : Cfg) (w : World), (∀ b o, facts b = some o → w.heap[b]? = some o ∧ σ.Free (· = b)) → CallsX (tokenJ Try.prog Fin) f (first ++ #[t] ++ cap) σ w fun v σ' w' => v = .tuple #[] ∧ σ' = σ ∧ Bigger w w') : BodyOK Fin (quiet facts) j () f first cap := by
  intro m A kap s σ w hM hun _ hI
  obtain ⟨h1, h2, h3⟩ := hI
  refine CallsX.noPanic ((h _ σ w fun b o hb => ⟨(h3 b o hb).1, hM.free (h3 b o hb).2⟩).mono fun v σ' w' ⟨e1, e2, B⟩ => ⟨e1, m, A, kap, (), (), rfl, by rw [e2]; exact hM.keep B.size fun b hb _ => B.old b hb, h1, fun i => ?_, fun b o hb => ⟨B.is (h3 b o hb).1, (h3 b o hb).2⟩⟩)
  show (setAt A.p.st j .ended i).lives = false
  unfold setAt
  split
  · rfl
  · exact h2 i

theorem quiet_run {most : Nat} {bs : List Bod} {bbo : Option Addr} {bcp : Nat} {σ : Cfg} {w : World} (hm : most ≤ 65536) (hh : σ.h = 0) (hd : σ.dl = 0) (hs : σ.seat = fun _ => none) (hn : 0 < σ.n) (hf : ∀ b o, facts b = some o → w.heap[b]? = some o) (n64 : bs.length ≤ 64)
    (hrow : ∀ w', (∀ b o, facts b = some o → w'.heap[b]? = some o) → FuncRow w' bbo bs)
    (hbody : ∀ x (hx : x < bs.length), (∃ fn, Try.prog.funcs[bs[x].f]? = some fn ∧ (fn.name == "runtime.NumGoroutine") = false ∧ fn.body.isNone = false) ∧ BodyOK Fin (quiet facts) x () bs[x].f bs[x].first bs[x].cap) :
    CallsX (tokenJ Try.prog Fin) 30 #[.slice none 0 0, .int .i64 most, .slice bbo bs.length bcp] σ w fun v σ' w' => σ' = { σ with n := σ.n + bs.length } ∧
      (∃ o1 n1 c1 o2 n2 c2 o3 n3 c3 o4 n4 c4, v = .agg #[.int .i8 1, .int .i64 0, .slice o1 n1 c1, .slice o2 n2 c2, .slice o3 n3 c3, .slice o4 n4 c4, .slice none 0 0]) ∧ (∀ b o, facts b = some o → w'.heap[b]? = some o) ∧ w.heap.size ≤ w'.heap.size := by
  have P : Plan Fin (quiet facts) [] none bs bbo (fun _ => ()) := ⟨fun kap s st log cv own w' hI => ⟨fun x hx => absurd hx (Nat.not_lt_zero x), hrow w' fun b o hb => (hI.2.2 b o hb).1⟩, fun x hx => absurd hx (by simp), n64, hbody⟩
  have h := run_calls (picks := []) (pcp := 0) (bcp := bcp) (s0 := ()) (cells := fun _ => False) (cv0 := fun _ => 0) P hm hh hd hs hn (fun c hc => hc.elim) ⟨rfl, fun _ => rfl, fun b o hb => ⟨hf b o hb, id⟩⟩
  refine h.mono fun v σ' w' ⟨e1, A, f, kap, s, lv, R⟩ => ⟨e1, ?_, fun b o hb => (R.inv.2.2 b o hb).1, R.size⟩
  have hlog : A.p.log = [] := R.inv.1
  have hw0 : A.p.went.length = 0 := by rw [← R.reach.lens.1, hlog]; rfl
  have hov : A.p.over = true := by
    unfold Pub.over
    rw [List.all_eq_true]
    intro j hj
    rw [show (A.p.st j).lives = false from R.inv.2.1 j]
    rfl
  have hend : A.p.ends = 1 := by unfold Pub.ends; rw [if_pos hov]
  obtain ⟨o1, c1, h1⟩ := row_slice R.mem.logs
  obtain ⟨o2, c2, h2⟩ := row_slice R.mem.went
  obtain ⟨o3, c3, h3⟩ := row_slice R.mem.ready
  obtain ⟨o4, c4, h4⟩ := row_slice R.row
  have h1' : A.logv = _ := h1
  have h2' : A.wentv = _ := h2
  have h3' : A.readyv = _ := h3
  refine ⟨o1, A.p.log.length, c1, o2, A.p.went.length, c2, o3, A.p.ready.length, c3, o4, (lefts A.p).length, c4, ?_⟩
  rw [R.val, hend, h1', h2', h3', h4]
  unfold reportV
  have e0 : (A.p.went.length : Int) = 0 := by omega
  rw [e0]
  rfl
end
end Go.Proofs.Ytcibnfjpagmdaaa
