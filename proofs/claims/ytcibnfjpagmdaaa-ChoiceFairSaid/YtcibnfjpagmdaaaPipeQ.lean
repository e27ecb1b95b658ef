/- A pipe as a queue, one goroutine alone. -/
import Derived.Test.YtcibnfjpagmdaaaPipeNew
set_option linter.unusedSimpArgs false
set_option linter.unusedVariables false
set_option maxRecDepth 100000
namespace Go.Proofs.Ytcibnfjpagmdaaa
open Go.TX Go.Conc Go.RowKit Go.MapKept
variable {J : Judge Try.prog} {σ : Cfg} {w : World}

theorem bits_and_nat (x y : Nat) (hx : x < 2 ^ 62) (hy : y < 2 ^ 62) : bits .and .i64 (x : Int) (y : Int) = ((x &&& y : Nat) : Int) := by
  have h1 : (BitVec.ofInt 64 (x : Int) &&& BitVec.ofInt 64 (y : Int)).toNat = x &&& y := by
    rw [BitVec.toNat_and]
    simp only [BitVec.toNat_ofInt]
    congr 1 <;> omega
  have h2 : x &&& y < 2 ^ 62 := Nat.lt_of_le_of_lt Nat.and_le_left hx
  unfold bits
  show IntKind.i64.wrap (((BitVec.ofInt 64 (x : Int) &&& BitVec.ofInt 64 (y : Int)).toNat : Nat) : Int) = _
  rw [h1]
  exact wrap_small (by omega) (by omega)

/-- A power of two that a pipe may have as its room. -/
def Pow2 (n : Nat) : Prop := ∃ e, 1 ≤ e ∧ e ≤ 12 ∧ n = 2 ^ e
theorem Pow2.le {n : Nat} (h : Pow2 n) : 2 ≤ n ∧ n ≤ 4096 := by
  obtain ⟨e, h1, h2, rfl⟩ := h
  exact ⟨by calc 2 = 2 ^ 1 := rfl
            _ ≤ 2 ^ e := Nat.pow_le_pow_right (by decide) h1, by calc 2 ^ e ≤ 2 ^ 12 := Nat.pow_le_pow_right (by decide) h2
                                                                  _ = 4096 := rfl⟩
theorem Pow2.idx {n : Nat} (h : Pow2 n) {k : Nat} (hk : k < 2 ^ 62) : idx n (k : Int) = ((k % n : Nat) : Int) := by
  have hl := h.le
  obtain ⟨e, h1, h2, rfl⟩ := h
  show bits .and .i64 (k : Int) (IntKind.i64.wrap (((2 ^ e : Nat) : Int) - 1)) = _
  rw [wrap_small (by omega) (by omega), show (((2 ^ e : Nat) : Int) - 1) = ((2 ^ e - 1 : Nat) : Int) by omega, bits_and_nat k (2 ^ e - 1) hk (by omega), Nat.and_two_pow_sub_one_eq_mod]
theorem Pow2.self {n : Nat} (h : Pow2 n) : bits .and .i64 (n : Int) (IntKind.i64.wrap ((n : Int) - 1)) = 0 := by
  have := h.idx (k := n) (by have := h.le; omega)
  simpa using this
theorem bits_odd (k : Nat) (hk : k < 2 ^ 62) : bits .and .i64 (k : Int) 1 = ((k % 2 : Nat) : Int) := by
  have := bits_and_nat k 1 hk (by decide)
  rw [show ((1 : Nat) : Int) = 1 from rfl] at this
  rw [this, Nat.and_one_is_mod]

def shape (p bell n pl cap : Nat) (c : Nat → Nat) : Shape := { p, bell, n, i := c 0, u := c 1, pl, cap, t := fun j => c (2 + 2 * j), s := fun j => c (3 + 2 * j) }

theorem ptrs_len (c : Nat → Nat) : ∀ m, (ptrs c m).length = m * 2
  | 0 => rfl
  | m + 1 => by simp [ptrs, ptrs_len c m]; omega
theorem ptrs_get (c : Nat → Nat) : ∀ (m j : Nat), j < m → (ptrs c m)[j * 2]? = some (.pointer (some ⟨c (2 + 2 * j), 0, none⟩)) ∧ (ptrs c m)[j * 2 + 1]? = some (.pointer (some ⟨c (3 + 2 * j), 0, none⟩))
  | 0, j, h => by omega
  | m + 1, j, h => by
    have hl := ptrs_len c m
    by_cases e : j < m
    · obtain ⟨h1, h2⟩ := ptrs_get c m j e
      simp only [ptrs]
      rw [List.getElem?_append_left (by omega), List.getElem?_append_left (by omega)]
      exact ⟨h1, h2⟩
    · obtain rfl : j = m := by omega
      simp only [ptrs]
      rw [List.getElem?_append_right (by omega), List.getElem?_append_right (by omega), hl]
      exact ⟨by simp, by simp [show j * 2 + 1 - j * 2 = 1 by omega]⟩

theorem made_shape {w0 wx : World} {p bell n : Nat} {c : Nat → Nat} {sv : Value} (M : Made w0 wx w p (some ⟨bell, 0, none⟩) c n sv) (hn : 0 < n) {d : Int} (hb : CellIs w bell d) (hbc : ∀ x, x < 2 + 2 * n → c x ≠ bell) :
    ∃ pl cap, Laid w (shape p bell n pl cap c) ∧ (shape p bell n pl cap c).Apart ∧ w0.heap.size ≤ pl := by
  rcases M.own.2 with ⟨_, h0⟩ | ⟨pl, cap, cur, rfl, hpl, hcur, hle, hmax, hsz, htake⟩
  · omega
  have hcell : ∀ b v, CellIs w b v → b ≠ p ∧ b ≠ pl := fun b v h => by
    refine ⟨fun e => ?_, fun e => ?_⟩
    · subst e; have := h.symm.trans M.hp; simp at this
    · subst e; have := h.symm.trans hcur; simp at this
  have hg : ∀ x, x < n * 2 → cur[x]? = (ptrs c n)[x]? := fun x hx => by
    rw [← htake, List.getElem?_take_of_lt hx, Array.getElem?_toList]
  have hpc : ∀ b, (shape p bell n pl cap c).cell b → ∃ x, x < 2 + 2 * n ∧ b = c x := fun b h => by
    rcases h with rfl | rfl | ⟨j, hj, rfl⟩ | ⟨j, hj, rfl⟩
    · exact ⟨0, by omega, rfl⟩
    · exact ⟨1, by omega, rfl⟩
    · exact ⟨2 + 2 * j, by show 2 + 2 * j < 2 + 2 * n; have : j < n := hj; omega, rfl⟩
    · exact ⟨3 + 2 * j, by show 3 + 2 * j < 2 + 2 * n; have : j < n := hj; omega, rfl⟩
  refine ⟨pl, cap, ⟨?_, ?_, ?_, ?_, fun j hj => ?_, fun j hj => ?_⟩, ⟨fun b h => ?_, ?_, fun e => ?_, fun j hj => ?_, fun j j' hj hj' e => ?_, fun j j' hj hj' e => ?_, fun j j' hj hj' e => ?_⟩, hpl⟩
  · unfold World.cell?; show (match w.heap[p]? with | some (.cells c _ _) => _ | _ => _) = _; rw [M.hp]; rfl
  · unfold World.cell?; show (match w.heap[p]? with | some (.cells c _ _) => _ | _ => _) = _; rw [M.hp]; rfl
  · unfold World.cell?; show (match w.heap[p]? with | some (.cells c _ _) => _ | _ => _) = _; rw [M.hp]; rfl
  · unfold World.cell?; show (match w.heap[p]? with | some (.cells c _ _) => _ | _ => _) = _; rw [M.hp]; rfl
  · have hj : j < n := hj
    unfold World.cell?; show (match w.heap[pl]? with | some (.cells c _ _) => _ | _ => _) = _; rw [hcur]
    show cur[j * 2]? = _
    rw [hg _ (by omega), (ptrs_get c n j hj).1]; rfl
  · have hj : j < n := hj
    unfold World.cell?; show (match w.heap[pl]? with | some (.cells c _ _) => _ | _ => _) = _; rw [hcur]
    show cur[j * 2 + 1]? = _
    rw [hg _ (by omega), (ptrs_get c n j hj).2]; rfl
  · obtain ⟨x, hx, rfl⟩ := hpc b h
    obtain ⟨h1, h2⟩ := hcell _ _ (M.is x hx)
    exact ⟨h1, h2, hbc x hx⟩
  · obtain ⟨h1, h2⟩ := hcell _ _ hb
    exact ⟨h1.symm, h2.symm⟩
  · have := M.inj 0 1 (by omega) (by omega) e; omega
  · have hj : j < n := hj
    refine ⟨fun e => ?_, fun e => ?_, fun e => ?_, fun e => ?_⟩
    · have := M.inj _ 0 (by omega) (by omega) e; omega
    · have := M.inj _ 1 (by omega) (by omega) e; omega
    · have := M.inj _ 0 (by omega) (by omega) e; omega
    · have := M.inj _ 1 (by omega) (by omega) e; omega
  · have hj : j < n := hj
    have hj' : j' < n := hj'
    have := M.inj _ _ (by omega) (by omega) e; omega
  · have hj : j < n := hj
    have hj' : j' < n := hj'
    have := M.inj _ _ (by omega) (by omega) e; omega
  · have hj : j < n := hj
    have hj' : j' < n := hj'
    have := M.inj _ _ (by omega) (by omega) e; omega

/-! ### the queue -/
structure PQ (w : World) (S : Shape) (o : Nat) (q : List Int) (cl : Bool) : Prop where
  laid : Laid w S
  apart : S.Apart
  pow : Pow2 S.n
  len : q.length ≤ S.n
  i : CellIs w S.i ((2 * (o + q.length) + cl.toNat : Nat) : Int)
  u : CellIs w S.u (o : Int)
  slots : ∀ j, j < S.n → ∃ v, CellIs w (S.s j) v
  room : ∀ k, o + q.length ≤ k → k < o + S.n → CellIs w (S.t (k % S.n)) (k : Int)
  full : ∀ x v, q[x]? = some v → CellIs w (S.t ((o + x) % S.n)) ((o + x + 1 : Nat) : Int) ∧ CellIs w (S.s ((o + x) % S.n)) v

/-- Only these cells are turned. -/
structure OnlyCells (w w' : World) (S : Shape) : Prop where
  size : w'.heap.size = w.heap.size
  other : ∀ c, ¬ S.cell c → c ≠ S.bell → w'.heap[c]? = w.heap[c]?
theorem OnlyCells.refl (w : World) (S : Shape) : OnlyCells w w S := ⟨rfl, fun _ _ _ => rfl⟩

theorem PQ.later {w' : World} {S : Shape} {o : Nat} {q : List Int} {cl : Bool} (h : PQ w S o q cl) (h1 : w'.heap[S.p]? = w.heap[S.p]?) (h2 : w'.heap[S.pl]? = w.heap[S.pl]?) (hc : ∀ b, S.cell b → w'.heap[b]? = w.heap[b]?) : PQ w' S o q cl := by
  have hn : ∀ k, k % S.n < S.n := fun k => Nat.mod_lt _ (by have := h.pow.le; omega)
  exact ⟨h.laid.later h1 h2, h.apart, h.pow, h.len, h.i.later (hc _ (.inl rfl)), h.u.later (hc _ (.inr (.inl rfl))), fun j hj => (h.slots j hj).imp fun v hv => hv.later (hc _ (.inr (.inr (.inr ⟨j, hj, rfl⟩)))),
    fun k h1 h2 => (h.room k h1 h2).later (hc _ (.inr (.inr (.inl ⟨_, hn _, rfl⟩)))), fun x v hx => ⟨(h.full x v hx).1.later (hc _ (.inr (.inr (.inl ⟨_, hn _, rfl⟩)))), (h.full x v hx).2.later (hc _ (.inr (.inr (.inr ⟨_, hn _, rfl⟩))))⟩⟩

theorem mod_ne {n a b : Nat} (h1 : a < b) (h2 : b < a + n) : a % n ≠ b % n := by
  intro e
  have h : (b - a) % n = 0 := Nat.sub_mod_eq_zero_of_mod_eq e.symm
  rw [Nat.mod_eq_of_lt (by omega)] at h
  omega

theorem made_pq {w0 wx : World} {p bell n : Nat} {c : Nat → Nat} {sv : Value} (M : Made w0 wx w p (some ⟨bell, 0, none⟩) c n sv) (hp : Pow2 n) {d : Int} (hb : CellIs w bell d) (hbc : ∀ x, x < 2 + 2 * n → c x ≠ bell) :
    ∃ pl cap, PQ w (shape p bell n pl cap c) 0 [] false ∧ w0.heap.size ≤ pl := by
  have hl := hp.le
  obtain ⟨pl, cap, hL, hA, hpl⟩ := made_shape M (by omega) hb hbc
  refine ⟨pl, cap, ⟨hL, hA, hp, Nat.zero_le _, ?_, ?_, fun j hj => ⟨0, ?_⟩, fun k h1 h2 => ?_, fun x v h => by simp at h⟩, hpl⟩
  · have := M.is 0 (by omega); show CellIs w (c 0) _; simpa [val0] using this
  · have := M.is 1 (by omega); show CellIs w (c 1) _; simpa [val0] using this
  · have hj : j < n := hj
    have := M.is (3 + 2 * j) (by omega)
    rw [show val0 (3 + 2 * j) = 0 by unfold val0; rw [if_neg (by omega)]] at this
    exact this
  · have h2 : k < 0 + n := h2
    have := M.is (2 + 2 * k) (by omega)
    rw [show val0 (2 + 2 * k) = (k : Int) by unfold val0; rw [if_pos (by omega)]; congr 1; omega] at this
    show CellIs w (c (2 + 2 * (k % n))) _
    rw [Nat.mod_eq_of_lt (by omega)]
    exact this

section
variable {S : Shape} {o : Nat} {q : List Int} {cl : Bool} {t : Value} {d v : Int}

theorem PQ.mod (h : PQ w S o q cl) (k : Nat) : k % S.n < S.n := Nat.mod_lt _ (by have := h.pow.le; omega)

/-- A send where there is room. -/
theorem pq_send (h : PQ w S o q false) (hl : q.length < S.n) (hs : o + q.length < 2 ^ 60) (hoff : ∀ w', Off w' t) (hb : CellIs w S.bell d) (hf : ∀ b, S.cell b ∨ b = S.bell → σ.Free (· = b)) :
    CallsX J 49 #[.pointer (some ⟨S.p, 0, none⟩), t, .int .i64 v] σ w fun r σ' w' => r = .int .i8 1 ∧ σ' = σ ∧ PQ w' S o (q ++ [v]) false ∧ CellIs w' S.bell (IntKind.i64.wrap (d + 1)) ∧ OnlyCells w w' S := by
  have hn := h.pow.le
  have hm := h.mod (o + q.length)
  have hi : CellIs w S.i ((2 * (o + q.length) : Nat) : Int) := h.i
  have hx : bits .and .i64 ((2 * (o + q.length) : Nat) : Int) 1 = 0 := by rw [bits_odd _ (by omega)]; simp
  have hk : IntKind.i64.wrap (Int.tdiv ((2 * (o + q.length) : Nat) : Int) 2) = ((o + q.length : Nat) : Int) := by
    rw [show Int.tdiv ((2 * (o + q.length) : Nat) : Int) 2 = ((o + q.length : Nat) : Int) by rw [Int.tdiv_eq_ediv_of_nonneg (by omega)]; omega]
    exact wrap_small (by omega) (by omega)
  have hidx := h.pow.idx (k := o + q.length) (by omega)
  obtain ⟨e0, hslot⟩ := h.slots _ hm
  refine (send_did (J := J) (v := v) (k := ((o + q.length : Nat) : Int)) (j := (o + q.length) % S.n) h.laid h.apart hm hoff hi hx hk (by rw [hidx]; omega) (by rw [hidx]; omega) (by rw [hidx]; omega) (h.room _ (Nat.le_refl _) (by omega)) hslot hb hf).mono ?_
  rintro r σ' w' ⟨rfl, rfl, w1, w2, w3, U1, U2, U3, U4⟩
  have A := h.apart
  rw [wrap_small (by omega) (by omega)] at U1
  rw [wrap_small (by omega) (by omega)] at U3
  -- a block that none of the four is
  have keep : ∀ c, c ≠ S.i → c ≠ S.s ((o + q.length) % S.n) → c ≠ S.t ((o + q.length) % S.n) → c ≠ S.bell → w'.heap[c]? = w.heap[c]? := fun c a1 a2 a3 a4 => by rw [U4.other c a4, U3.other c a3, U2.other c a2, U1.other c a1]
  have ci := A.pc S.i (.inl rfl)
  have cu := A.pc S.u (.inr (.inl rfl))
  have ct := fun j (hj : j < S.n) => A.pc (S.t j) (.inr (.inr (.inl ⟨j, hj, rfl⟩)))
  have cs := fun j (hj : j < S.n) => A.pc (S.s j) (.inr (.inr (.inr ⟨j, hj, rfl⟩)))
  refine ⟨rfl, rfl, ⟨h.laid.later (keep _ A.ni.1 (A.ns hm).1 (A.nt hm).1 A.pp.1) (keep _ A.ni.2.1 (A.ns hm).2.1 (A.nt hm).2.1 A.pp.2), A, h.pow, by simp; omega, ?_, ?_, fun j hj => ?_, fun k h1 h2 => ?_, fun x y hxy => ?_⟩, U4.is, ⟨by rw [U4.size, U3.size, U2.size, U1.size], fun c hc hcb => ?_⟩⟩
  · have e : ((2 * (o + (q ++ [v]).length) + false.toNat : Nat) : Int) = ((2 * (o + q.length) : Nat) : Int) + 2 := by simp; omega
    rw [e]
    exact U4.later ci.2.2 (U3.later (A.it _ hm).1.symm (U2.later (A.it _ hm).2.2.1.symm U1.is))
  · exact h.u.later (keep _ A.iu.symm (A.it _ hm).2.2.2.symm (A.it _ hm).2.1.symm cu.2.2)
  · by_cases e : j = (o + q.length) % S.n
    · subst e; exact ⟨v, U4.later (cs _ hm).2.2 (U3.later (A.ts _ _ hm hm).symm U2.is)⟩
    · obtain ⟨y, hy⟩ := h.slots j hj
      exact ⟨y, hy.later (keep _ (A.it j hj).2.2.1 (fun e' => e (A.ss _ _ hj hm e')) (A.ts _ _ hm hj).symm (cs j hj).2.2)⟩
  · simp only [List.length_append, List.length_cons, List.length_nil] at h1
    have hkm := h.mod k
    exact (h.room k (by omega) h2).later (keep _ (A.it _ hkm).1 (A.ts _ _ hkm hm) (fun e' => mod_ne (n := S.n) (a := o + q.length) (b := k) (by omega) (by omega) (A.tt _ _ hkm hm e').symm) (ct _ hkm).2.2)
  · by_cases e : x = q.length
    · subst e
      obtain rfl : v = y := by simpa using hxy
      refine ⟨?_, ?_⟩
      · rw [show ((o + q.length + 1 : Nat) : Int) = ((o + q.length : Nat) : Int) + 1 by omega]
        exact U4.later (ct _ hm).2.2 U3.is
      · exact U4.later (cs _ hm).2.2 (U3.later (A.ts _ _ hm hm).symm U2.is)
    · have hlt : x < q.length := by
        have := (List.getElem?_eq_some_iff.1 hxy).1
        simp at this; omega
      rw [List.getElem?_append_left hlt] at hxy
      obtain ⟨f1, f2⟩ := h.full x y hxy
      have hkm := h.mod (o + x)
      have hne : (o + x) % S.n ≠ (o + q.length) % S.n := mod_ne (by omega) (by omega)
      exact ⟨f1.later (keep _ (A.it _ hkm).1 (A.ts _ _ hkm hm) (fun e' => hne (A.tt _ _ hkm hm e')) (ct _ hkm).2.2), f2.later (keep _ (A.it _ hkm).2.2.1 (fun e' => hne (A.ss _ _ hkm hm e')) (A.ts _ _ hm hkm).symm (cs _ hkm).2.2)⟩
  · exact keep c (fun e => hc (.inl e)) (fun e => hc (.inr (.inr (.inr ⟨_, hm, e⟩)))) (fun e => hc (.inr (.inr (.inl ⟨_, hm, e⟩)))) hcb

/-- A receive. -/
theorem pq_recv (h : PQ w S o (v :: q) cl) (hs : o + q.length < 2 ^ 60) (hoff : ∀ w', Off w' t) (hb : CellIs w S.bell d) (hf : ∀ b, S.cell b ∨ b = S.bell → σ.Free (· = b)) :
    CallsX J 106 #[.pointer (some ⟨S.p, 0, none⟩), t] σ w fun r σ' w' => r = .tuple #[.int .i64 v, .int .i8 1] ∧ σ' = σ ∧ PQ w' S (o + 1) q cl ∧ CellIs w' S.bell (IntKind.i64.wrap (d + 1)) ∧ OnlyCells w w' S := by
  have hn := h.pow.le
  have hm := h.mod o
  have hlen : q.length + 1 ≤ S.n := h.len
  have hidx := h.pow.idx (k := o) (by omega)
  obtain ⟨hturn, hslot⟩ := h.full 0 v rfl
  simp only [Nat.add_zero] at hturn hslot
  have e1 : IntKind.i64.wrap ((o : Int) + 1) = ((o + 1 : Nat) : Int) := by rw [wrap_small (by omega) (by omega)]; omega
  refine (recv_did (J := J) (k := (o : Int)) (j := o % S.n) h.laid h.apart hm hoff h.u (by rw [hidx]; omega) (by rw [hidx]; omega) (by rw [hidx]; omega) hturn (by rw [e1]; simp; exact wrap_small (by omega) (by omega)) hslot hb hf).mono ?_
  rintro r σ' w' ⟨rfl, rfl, w1, w2, U1, U2, U3⟩
  have A := h.apart
  rw [e1] at U1
  rw [show IntKind.i64.wrap ((o : Int) + (S.n : Int)) = ((o + S.n : Nat) : Int) by rw [wrap_small (by omega) (by omega)]; omega] at U2
  have keep : ∀ c, c ≠ S.u → c ≠ S.t (o % S.n) → c ≠ S.bell → w'.heap[c]? = w.heap[c]? := fun c a1 a2 a3 => by rw [U3.other c a3, U2.other c a2, U1.other c a1]
  have ci := A.pc S.i (.inl rfl)
  have cu := A.pc S.u (.inr (.inl rfl))
  have ct := fun j (hj : j < S.n) => A.pc (S.t j) (.inr (.inr (.inl ⟨j, hj, rfl⟩)))
  have cs := fun j (hj : j < S.n) => A.pc (S.s j) (.inr (.inr (.inr ⟨j, hj, rfl⟩)))
  refine ⟨rfl, rfl, ⟨h.laid.later (keep _ A.nu.1 (A.nt hm).1 A.pp.1) (keep _ A.nu.2.1 (A.nt hm).2.1 A.pp.2), A, h.pow, by omega, ?_, ?_, fun j hj => ?_, fun k h1 h2 => ?_, fun x y hxy => ?_⟩, U3.is, ⟨by rw [U3.size, U2.size, U1.size], fun c hc hcb => ?_⟩⟩
  · have := h.i.later (keep _ A.iu (A.it _ hm).1.symm ci.2.2)
    simpa [Nat.add_assoc, Nat.add_comm, Nat.add_left_comm] using this
  · exact U3.later cu.2.2 (U2.later (A.it _ hm).2.1.symm U1.is)
  · obtain ⟨y, hy⟩ := h.slots j hj
    exact ⟨y, hy.later (keep _ (A.it j hj).2.2.2 (A.ts _ _ hm hj).symm (cs j hj).2.2)⟩
  · by_cases e : k = o + S.n
    · subst e
      rw [Nat.add_mod_right]
      exact U3.later (ct _ hm).2.2 U2.is
    · have hkm := h.mod k
      exact (h.room k (by simp; omega) (by omega)).later (keep _ (A.it _ hkm).2.1 (fun e' => mod_ne (n := S.n) (a := o) (b := k) (by omega) (by omega) (A.tt _ _ hkm hm e').symm) (ct _ hkm).2.2)
  · have hxl : x < q.length := (List.getElem?_eq_some_iff.1 hxy).1
    obtain ⟨f1, f2⟩ := h.full (x + 1) y (by simpa using hxy)
    have hkm := h.mod (o + (x + 1))
    have hne : (o + (x + 1)) % S.n ≠ o % S.n := (mod_ne (n := S.n) (a := o) (b := o + (x + 1)) (by omega) (by omega)).symm
    rw [show o + 1 + x = o + (x + 1) by omega]
    exact ⟨f1.later (keep _ (A.it _ hkm).2.1 (fun e' => hne (A.tt _ _ hkm hm e')) (ct _ hkm).2.2), f2.later (keep _ (A.it _ hkm).2.2.2 (A.ts _ _ hm hkm).symm (cs _ hkm).2.2)⟩
  · exact keep c (fun e => hc (.inr (.inl e))) (fun e => hc (.inr (.inr (.inl ⟨_, hm, e⟩)))) hcb

/-- A receive where nothing is there, and it is open. -/
theorem pq_empty (h : PQ w S o [] false) (hs : o < 2 ^ 60) (hoff : ∀ w', Off w' t) :
    CallsX J 106 #[.pointer (some ⟨S.p, 0, none⟩), t] σ w fun r σ' w' => r = .tuple #[.int .i64 0, .int .i8 2] ∧ σ' = σ ∧ w' = w := by
  have hn := h.pow.le
  have hm := h.mod o
  have hidx := h.pow.idx (k := o) (by omega)
  have e1 : IntKind.i64.wrap ((o : Int) + 1) = (o : Int) + 1 := wrap_small (by omega) (by omega)
  have e2 : IntKind.i64.wrap (2 * (o : Int)) = 2 * (o : Int) := wrap_small (by omega) (by omega)
  refine recv_none (J := J) (k := (o : Int)) (j := o % S.n) h.laid hm hoff h.u (by rw [hidx]; omega) (by rw [hidx]; omega) (by rw [hidx]; omega) (h.room o (by simp) (by omega)) ?_ h.i ?_
  · rw [e1, wrap_small (by omega) (by omega)]; omega
  · rw [e2, wrap_small (by omega) (by omega)]
    simp; omega
end
end Go.Proofs.Ytcibnfjpagmdaaa
