/- The run with one turn more noted; whose turn it is. -/
import Derived.Test.YtcibnfjpagmdaaaBegin
set_option linter.unusedSimpArgs false
set_option linter.unusedVariables false
set_option maxRecDepth 100000
set_option maxHeartbeats 4000000
namespace Go.Proofs.Ytcibnfjpagmdaaa
open Go.TX Go.Conc Go.RowKit Go.MapKept

def GA.turned (A : GA) (j n : Nat) (wentv' readyv' : Value) (lo hi : Nat) : GA :=
  { A with p := A.p.turn j n, wentv := wentv', readyv := readyv', own := fun b => A.own b ∨ (lo ≤ b ∧ b < hi) }

section
variable {A : GA} {w w1 : World} {wentv' readyv' : Value} {j n mid : Nat}

theorem GMem.turned (M : GMem A none w) (hlen : A.p.went.length < 65536) (hlen2 : A.p.ready.length < 65536) (hmid : w.heap.size ≤ mid)
    (old : ∀ b, b < w.heap.size → b ≠ A.R → A.wentv.ownBlock ≠ some b → A.readyv.ownBlock ≠ some b → w1.heap[b]? = w.heap[b]?)
    (hR : w1.heap[A.R]? = some (.cells #[A.thv, .map (some A.mb), A.logv, wentv', readyv', A.fellv, .bool A.stops] 200))
    (hw : w1.ownsRow 0 3 1 wentv' (A.p.went.length + 1) (ints A.p.went ++ [.int .i64 j])) (hr : w1.ownsRow 0 3 1 readyv' (A.p.ready.length + 1) (ints A.p.ready ++ [.int .i64 n]))
    (bw : ∀ b, wentv'.ownBlock = some b → A.wentv.ownBlock = some b ∨ (w.heap.size ≤ b ∧ b < mid)) (br : ∀ b, readyv'.ownBlock = some b → A.readyv.ownBlock = some b ∨ mid ≤ b) :
    GMem (A.turned j n wentv' readyv' w.heap.size w1.heap.size) none w1 := by
  obtain ⟨oR, omb, oc, o1, o2, o3, o4, o5, oj⟩ := M.owns
  have lt : ∀ {b : Nat} {o : Obj}, w.heap[b]? = some o → b < w.heap.size := fun h => lt_of_get h
  have st : ∀ {b : Nat} {o : Obj}, w.heap[b]? = some o → (∀ x y, o ≠ .cells x 200 y) → (∀ x y, o ≠ .cells x 3 y) → w1.heap[b]? = some o := fun {b o} hb n1 n2 => by
    refine (old b (lt hb) (ne_of_obj hb M.runs (n1 _ _)) (fun h => ?_) (fun h => ?_)).trans hb
    · obtain ⟨_, _, cur, hcur⟩ := row_ty M.went h
      exact ne_of_obj hb hcur (n2 _ _) rfl
    · obtain ⟨_, _, cur, hcur⟩ := row_ty M.ready h
      exact ne_of_obj hb hcur (n2 _ _) rfl
  have row : ∀ {e : TypeId} {s : Nat} {v : Value} {n : Nat} {ys : List Value}, w.ownsRow 0 e s v n ys → e ≠ 200 → e ≠ 3 → w1.ownsRow 0 e s v n ys := fun {e s v n ys} hr h1 h2 => row_later hr fun k hk => by
    obtain ⟨_, _, cur, hcur⟩ := row_ty hr hk
    exact (st hcur (fun x y h => h1 (Obj.cells.inj h).2.1) (fun x y h => h2 (Obj.cells.inj h).2.1)).trans hcur.symm
  unfold GA.turned
  refine { runs := hR, mapo := st M.mapo (by simp) (by simp), thr := fun i hi => st (M.thr i hi) (by simp [thrObj]) (by simp [thrObj]), wkc := fun i hi => (M.wkc i hi).imp fun k hk => st hk (by simp) (by simp), sdc := fun i hi => (M.sdc i hi).imp fun k hk => st hk (by simp) (by simp), tcc := fun i hi => st (M.tcc i hi) (by simp) (by simp), rcc := fun i hi => st (M.rcc i hi) (by simp) (by simp), fcc := fun i hi => st (M.fcc i hi) (by simp) (by simp), ths := row M.ths (by decide) (by decide), logs := row M.logs (by decide) (by decide), went := ?_, ready := ?_, fell := row M.fell (by decide) (by decide), cell := fun c hc => st (M.cell c hc).obj (by simp [cellObj]) (by simp [cellObj]), cnc := M.cnc, cnd := M.cnd, stand := fun i a hi hr hs => ?_, born := M.born, small := ⟨M.small.1, ?_, ?_, M.small.2.2.2⟩, apart := ⟨fun b hb hb' => ?_, M.apart.2⟩, chans := M.chans, owns := ?_ }
  · show w1.ownsRow 0 3 1 wentv' (A.p.went ++ [j]).length (ints (A.p.went ++ [j]))
    rw [List.length_append, show ints (A.p.went ++ [j]) = ints A.p.went ++ [.int .i64 j] by simp [ints]]
    exact hw
  · show w1.ownsRow 0 3 1 readyv' (A.p.ready ++ [n]).length (ints (A.p.ready ++ [n]))
    rw [List.length_append, show ints (A.p.ready ++ [n]) = ints A.p.ready ++ [.int .i64 n] by simp [ints]]
    exact hr
  · obtain ⟨h1, h2, h3, h4, h5⟩ := M.stand i a hi hr hs
    exact ⟨h1, h2, h3, h4, fun hst => st (h5 hst) (by simp) (by simp)⟩
  · show (A.p.went ++ [j]).length ≤ 65536
    simp; omega
  · show (A.p.ready ++ [n]).length ≤ 65536
    simp; omega
  · rcases bw b hb with h | ⟨h1, h2⟩
    · rcases br b hb' with h3 | h3
      · exact M.apart.1 b h h3
      · have := (row_ty M.went h).2.1; omega
    · rcases br b hb' with h3 | h3
      · have := (row_ty M.ready h3).2.1; omega
      · omega
  · refine ⟨.inl oR, .inl omb, fun c hc => .inl (oc c hc), fun b hb => .inl (o1 b hb), fun b hb => .inl (o2 b hb), fun b hb => (bw b hb).imp (o3 b) fun h => ⟨h.1, (row_ty hw hb).2.1⟩, fun b hb => (br b hb).imp (o4 b) fun h => ⟨by omega, (row_ty hr hb).2.1⟩, fun b hb => .inl (o5 b hb), fun i hi => ?_⟩
    obtain ⟨h1, h2, h3, h4, h5, h6, h7⟩ := oj i hi
    exact ⟨.inl h1, .inl h2, .inl h3, .inl h4, .inl h5, .inl h6, fun a hr hs => .inl (h7 a hr hs)⟩

theorem _root_.Go.TX.Reach.whom {picks : List Int} {p : Pub} (h : p.able ≠ []) : whoGoes picks p.went p.able < p.nth ∧ ∃ a, p.st (whoGoes picks p.went p.able) = .stands a ∧ (a.op = 6 → p.cv a.cell ≠ a.arg) := by
  obtain ⟨h1, h2⟩ := Pub.can_lt (whoGoes_mem (picks := picks) (went := p.went) h)
  exact ⟨h1, Pub.can_stands h2⟩
end
end Go.Proofs.Ytcibnfjpagmdaaa
