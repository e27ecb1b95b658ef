/- New blocks and rows that stay. -/
import Derived.Test.YtcibnfjpagmdaaaDraw
import Derived.Test.YtcibnfjpagmdaaaCell
set_option linter.unusedSimpArgs false
set_option linter.unusedVariables false
set_option maxRecDepth 100000
namespace Go.Proofs.Ytcibnfjpagmdaaa
open Go.TX Go.Conc Go.RowKit Go.MapKept
variable {J : Judge Try.prog} {σ : Cfg} {w : World}

theorem wrap_small {x : Int} (h1 : -9223372036854775808 ≤ x) (h2 : x ≤ 9223372036854775807) : IntKind.i64.wrap x = x := by
  simp [IntKind.wrap, IntKind.min, IntKind.max, IntKind.signed, IntKind.bits] <;> (try split) <;> omega

/-- A new cell. -/
structure New1 (w w' : World) (v : Int) : Prop where
  is : CellIs w' w.heap.size v
  size : w'.heap.size = w.heap.size + 1
  old : ∀ c, c < w.heap.size → w'.heap[c]? = w.heap[c]?
theorem new1 (v : Int) : CallsX J 26 #[.int .i64 v] σ w fun r σ' w' => r = .pointer (some ⟨w.heap.size, 0, none⟩) ∧ σ' = σ ∧ New1 w w' v :=
  (cell_new v).mono fun _ _ _ ⟨h1, h2, h3, _⟩ => ⟨h1, h2, h3 ▸ ⟨cellIs_alloc w v, Array.size_push _, (heap_alloc w _).2⟩⟩

/-- A new block. -/
structure NewO (w w' : World) (o : Obj) : Prop where
  is : w'.heap[w.heap.size]? = some o
  size : w'.heap.size = w.heap.size + 1
  old : ∀ c, c < w.heap.size → w'.heap[c]? = w.heap[c]?
theorem newO (w : World) (o : Obj) : NewO w (w.alloc o) o := ⟨(heap_alloc w o).1, Array.size_push _, (heap_alloc w o).2⟩
/-- One block is turned. -/
structure SetO (w w' : World) (b : Nat) (o : Obj) : Prop where
  is : w'.heap[b]? = some o
  size : w'.heap.size = w.heap.size
  other : ∀ c, c ≠ b → w'.heap[c]? = w.heap[c]?
theorem setO {b i : Nat} {c : Array Value} {e : TypeId} {fz : Nat × Nat} (h : w.heap[b]? = some (.cells c e fz)) (v : Value) : SetO w (w.setCell ⟨b, i, none⟩ v) b (.cells (c.setIfInBounds i v) e fz) := by
  refine ⟨?_, setCell_size, fun k hk => setCell_heap_ne hk⟩
  unfold World.setCell
  simp only [Array.getElem?_modify, if_true, h, Option.map_some]
  rfl

theorem free_row {base : Nat} {e : TypeId} {size : Nat} {v : Value} {n : Nat} {xs : List Value} (h : w.ownsRow base e size v n xs) (hf : ∀ b, base ≤ b → σ.Free (· = b)) : σ.Free fun c => some c = v.ownBlock := by
  rcases h.2 with ⟨rfl, _⟩ | ⟨g, cap, cur, rfl, hg, _⟩
  · intro i s e; exact ⟨fun x => by simp [Value.ownBlock] at x, fun p hp x => by simp [Value.ownBlock] at x⟩
  · have := hf g hg
    intro i s e
    obtain ⟨h1, h2⟩ := this i s e
    exact ⟨fun x => h1 (by simpa [Value.ownBlock] using x), fun p hp x => h2 p hp (by simpa [Value.ownBlock] using x)⟩

theorem cells_new (w : World) (l : List Value) (t : TypeId) : ∀ j u, l[j]? = some u → (w.alloc (.cells l.toArray t)).cell? ((⟨w.heap.size, 0, none⟩ : Addr).add j) = some u := by
  intro j u h
  unfold World.cell?
  rw [add_block, (heap_alloc w _).1]
  have : ((⟨w.heap.size, 0, none⟩ : Addr).add j).spot = none ∧ ((⟨w.heap.size, 0, none⟩ : Addr).add j).off = j := by unfold Addr.add; split <;> simp_all
  simp only [this.1, this.2]
  simpa using h
theorem row_later {base : Nat} {e : TypeId} {size : Nat} {v : Value} {n : Nat} {xs : List Value} {w' : World} (h : w.ownsRow base e size v n xs) (he : ∀ k, v.ownBlock = some k → w'.heap[k]? = w.heap[k]?) : w'.ownsRow base e size v n xs := by
  refine ⟨h.1, h.2.imp id ?_⟩
  rintro ⟨g, cap, cur, rfl, h1, h2, h3⟩
  exact ⟨g, cap, cur, rfl, h1, (he g rfl).trans h2, h3⟩
theorem frozen_of {b i : Nat} {c : Array Value} {e : TypeId} (h : w.heap[b]? = some (.cells c e)) : w.frozen? ⟨b, i, none⟩ = false := by unfold World.frozen?; rw [h]; simp
theorem row_slice {base : Nat} {e : TypeId} {size : Nat} {v : Value} {n : Nat} {xs : List Value} (h : w.ownsRow base e size v n xs) : ∃ bo c, v = .slice bo n c := by
  rcases h.2 with ⟨rfl, rfl⟩ | ⟨g, cap, cur, rfl, _⟩ <;> exact ⟨_, _, rfl⟩
theorem row_ty {base : Nat} {e : TypeId} {size : Nat} {v : Value} {n : Nat} {xs : List Value} (h : w.ownsRow base e size v n xs) {k : Nat} (hk : v.ownBlock = some k) : base ≤ k ∧ k < w.heap.size ∧ ∃ cur, w.heap[k]? = some (.cells cur e (0, 0)) := by
  rcases h.2 with ⟨rfl, _⟩ | ⟨g, cap, cur, rfl, h1, h2, _⟩
  · cases hk
  · obtain rfl : g = k := by simpa [Value.ownBlock] using hk
    exact ⟨h1, lt_of_get h2, cur, h2⟩

end Go.Proofs.Ytcibnfjpagmdaaa
