/- Regions that draw their order: the words of the walk. -/
import Derived.Test.YtcibnfjpagmdaaaWb
import Derived.Conc.AppendEvents2
import Derived.Conc.Neutral
import Derived.Maps.AppendAt
namespace Go.TX
open Go.Conc

section
variable {P : Program} {J : Judge P} {σ : Cfg} {w : World} {b : Frame} {a : Act} {k : List Item} {cs : List Frame}
variable {fn : FuncId} {ops : Array Oper} {md : Region.Mode} {S : Cfg → World → Prop} {X : Nat → Bool} {Q : Act → Cfg → World → Prop}

theorem y_drawnQ {id : Nat} (S : Cfg → World → Prop) (X : Nat → Bool) (hm : P.follows .mixedOrders = true) (hk : (b.kind == CallKind.early) = false)
    (h : AnyX J b.fn .any ops (fun a σ w => J.Y σ (G (b.at a k) cs) w) S X ops.size (Array.replicate ops.size false) a σ w) :
    J.Y σ (G (b.at a (.code (.region id ops true) :: k)) cs) w := y_drawn hm hk S X _ h fun _ _ _ h => h

theorem anyX_takeW {i : Nat} {oi : Oper} {v : Value} {fuel : Nat} {listed : Array Bool} (hi : ops[i]? = some oi) (hw : Region.wanted oi (yielded ops a.tmps) = true) (hnw : Nw (execOp a.eval oi))
    (hv : ∀ σ' w', S σ' w' → ∀ (d : Nat) (K : Result Next → Prop), K (.ok (.value v) (w'.at d)) → K ((execOp a.eval oi).run P (w'.at d)))
    (hs : Region.noSelect ops = true) (hf : Region.free md ops listed i = true) (hr : (Region.ready md ops listed).contains i = true) (hx : waitsFor md ops X i = true)
    (hS : S σ w) (h : AnyX J fn md ops Q S X fuel (listed.setIfInBounds i true) (a.put oi.dst v) σ w) : AnyX J fn md ops Q S X (fuel + 1) listed a σ w :=
  anyX_take hi hs hf hr hx (.inl ⟨hw, hnw, fun σ' w' hS' d => hv σ' w' hS' d (· = .ok (.value v) (w'.at d)) rfl⟩) hS h

theorem anyX_takeU {i : Nat} {oi : Oper} {fuel : Nat} {listed : Array Bool} (hi : ops[i]? = some oi) (hw : Region.wanted oi (yielded ops a.tmps) = false)
    (hs : Region.noSelect ops = true) (hf : Region.free md ops listed i = true) (hr : (Region.ready md ops listed).contains i = true) (hx : waitsFor md ops X i = true)
    (hS : S σ w) (h : AnyX J fn md ops Q S X fuel (listed.setIfInBounds i true) (a.put oi.dst undef) σ w) : AnyX J fn md ops Q S X (fuel + 1) listed a σ w :=
  anyX_take hi hs hf hr hx (.inr ⟨hw, rfl⟩) hS h

/-- All that is asked of an operation that may come up first. -/
def okTake (md : Region.Mode) (ops : Array Oper) (X : Nat → Bool) (listed : Array Bool) (i : Nat) : Bool := Region.noSelect ops && Region.free md ops listed i && (Region.ready md ops listed).contains i && waitsFor md ops X i
theorem anyX_tW {i : Nat} {oi : Oper} {v : Value} {fuel : Nat} {listed : Array Bool} (hi : ops[i]? = some oi) (hw : Region.wanted oi (yielded ops a.tmps) = true) (hnw : Nw (execOp a.eval oi))
    (hv : ∀ σ' w', S σ' w' → ∀ (d : Nat) (K : Result Next → Prop), K (.ok (.value v) (w'.at d)) → K ((execOp a.eval oi).run P (w'.at d)))
    (ho : okTake md ops X listed i = true) (hS : S σ w) (h : AnyX J fn md ops Q S X fuel (listed.setIfInBounds i true) (a.put oi.dst v) σ w) : AnyX J fn md ops Q S X (fuel + 1) listed a σ w := by
  simp only [okTake, Bool.and_eq_true] at ho
  exact anyX_takeW hi hw hnw hv ho.1.1.1 ho.1.1.2 ho.1.2 ho.2 hS h
theorem anyX_tU {i : Nat} {oi : Oper} {fuel : Nat} {listed : Array Bool} (hi : ops[i]? = some oi) (hw : Region.wanted oi (yielded ops a.tmps) = false)
    (ho : okTake md ops X listed i = true) (hS : S σ w) (h : AnyX J fn md ops Q S X fuel (listed.setIfInBounds i true) (a.put oi.dst undef) σ w) : AnyX J fn md ops Q S X (fuel + 1) listed a σ w := by
  simp only [okTake, Bool.and_eq_true] at ho
  exact anyX_takeU hi hw ho.1.1.1 ho.1.1.2 ho.1.2 ho.2 hS h

theorem anyX_one {i fuel : Nat} {listed : Array Bool} (hr : Region.ready md ops listed = [i])
    (h : OpX J fn ops i (fun a' σ' w' => (X i = false → S σ' w') ∧ AnyX J fn md ops Q S X fuel (listed.setIfInBounds i true) a' σ' w') a σ w) : AnyX J fn md ops Q S X (fuel + 1) listed a σ w :=
  anyX_all hr (by simp) fun j hj => by obtain rfl : j = i := by simpa using hj
                                       exact h
theorem anyX_two {i j fuel : Nat} {listed : Array Bool} (hr : Region.ready md ops listed = [i, j])
    (h1 : OpX J fn ops i (fun a' σ' w' => (X i = false → S σ' w') ∧ AnyX J fn md ops Q S X fuel (listed.setIfInBounds i true) a' σ' w') a σ w)
    (h2 : OpX J fn ops j (fun a' σ' w' => (X j = false → S σ' w') ∧ AnyX J fn md ops Q S X fuel (listed.setIfInBounds j true) a' σ' w') a σ w) : AnyX J fn md ops Q S X (fuel + 1) listed a σ w :=
  anyX_all hr (by simp) fun x hx => by
    rcases List.mem_cons.1 hx with rfl | hx
    · exact h1
    · obtain rfl : x = j := by simpa using hx
      exact h2
theorem anyX_end {fuel : Nat} {listed : Array Bool} (hr : Region.ready md ops listed = []) (h : Q a σ w) : AnyX J fn md ops Q S X fuel listed a σ w := anyX_done hr h fuel

section
variable {i : Nat} {o : Oper} {K : Act → Cfg → World → Prop}
/-- A call of a function named outright. -/
theorem opX_call {f : FuncId} {f' : Func} {xs : Array Operand} {ts : Array TypeId} {R : Value → Cfg → World → Prop} {args : Array Value} (hi : ops[i]? = some o) (hw : Region.wanted o (yielded ops a.tmps) = true)
    (hop : o.op = .call { callee := .value (.func f), args := xs, argTypes := ts }) (hf : P.funcs[f]? = some f') (hname : (f'.name == "runtime.NumGoroutine") = false) (hb : f'.body.isNone = false)
    (hc : CallsX J f args σ w R) (hargs : xs.map a.eval = args) (hret : ∀ v σ' w', R v σ' w' → K (a.put o.dst v) σ' w') : OpX J fn ops i K a σ w := by
  unfold OpX
  simp only [hi, hw, if_true]
  intro d hs
  have e1 := run_call_body (w := w.at d) (a := a) hop hf hname hb
  have e2 := events_call_body (w := w.at d) (a := a) hop hf hname hb
  rw [e1]
  refine ⟨w, d, rfl, ?_, ?_⟩
  · have : listed P fn a o (w.at d) = #[] := by unfold listed; rw [e2]; exact seen_none P _
    rw [this]
    exact okay_within (at_sound hs d) (within_grown (Grown.refl _) (by simp)) (free_none σ)
  · rw [hargs]; exact CallsX.mono hc hret

theorem opX_nw (hi : ops[i]? = some o) (hw : Region.wanted o (yielded ops a.tmps) = true) (hnw : Nw (execOp a.eval o))
    (h : ∀ d, σ.Sound w → ∀ K' : Did → World → Prop, (∀ a' w' d', K a' σ w' → K' (.act a') (w'.at d')) → didOf o a K' ((execOp a.eval o).run P (w.at d))) : OpX J fn ops i K a σ w := by
  unfold OpX
  simp only [hi, hw, if_true]
  intro d hs
  have hok := okayQ_nw (P := P) (w := w) (fn := fn) (d := d) hs hnw
  refine didOf_mono ?_ (didOf_res (h d hs (fun D w' => ∃ a' w'' d', D = .act a' ∧ w' = w''.at d' ∧ K a' σ w'') (fun a' w' d' hY => ⟨a', w', d', rfl, rfl, hY⟩)))
  rintro D w' ⟨⟨a', w'', d', rfl, rfl, hK⟩, e⟩
  exact ⟨w'', d', rfl, by rw [e]; exact hok, hK⟩

theorem opX_wb (B : Nat → Prop) (hi : ops[i]? = some o) (hw : Region.wanted o (yielded ops a.tmps) = true) (hwb : Wb B (execOp a.eval o)) (nv : NV B w) (hf : σ.Free B)
    (h : ∀ d, σ.Sound w → ∀ K' : Did → World → Prop, (∀ a' w' d', K a' σ w' → K' (.act a') (w'.at d')) → didOf o a K' ((execOp a.eval o).run P (w.at d))) : OpX J fn ops i K a σ w := by
  unfold OpX
  simp only [hi, hw, if_true]
  intro d hs
  have hok := okayQ_wb (P := P) (fn := fn) (d := d) hs hwb nv hf
  refine didOf_mono ?_ (didOf_res (h d hs (fun D w' => ∃ a' w'' d', D = .act a' ∧ w' = w''.at d' ∧ K a' σ w'') (fun a' w' d' hY => ⟨a', w', d', rfl, rfl, hY⟩)))
  rintro D w' ⟨⟨a', w'', d', rfl, rfl, hK⟩, e⟩
  exact ⟨w'', d', rfl, by rw [e]; exact hok, hK⟩
theorem opX_store {t : TypeId} {x y : Operand} {ad : Addr} {u : Value} (hi : ops[i]? = some o) (hw : Region.wanted o (yielded ops a.tmps) = true) (hop : o.op = .store t x y)
    (hx : a.eval x = .pointer (some ad)) (hc : w.cell? ad = some u) (hf : σ.Free (· = ad.block))
    (h : ∀ d, σ.Sound w → ∀ K' : Did → World → Prop, (∀ a' w' d', K a' σ w' → K' (.act a') (w'.at d')) → didOf o a K' ((execOp a.eval o).run P (w.at d))) : OpX J fn ops i K a σ w := by
  refine opX_wb (· = ad.block) hi hw ?_ (nv_cell hc) hf h
  unfold execOp
  simp only [hop, hx]
  exact Wb_bind (wb_store t ad _ rfl) fun _ => trivial
end

/-! ### append -/
theorem okayQ_append {fn : FuncId} {o : Oper} {d : Nat} {s x : Operand} {t : TypeId} {v xv : Value} {w' : World} (hs : σ.Sound w) (hop : o.op = .call { callee := .builtin .append, args := #[s, x], argTypes := #[t, t] }) (hes : a.eval s = v) (hex : a.eval x = xv)
    (hev : ∀ ev ∈ (Builtin.append_ #[t, t] o.type #[v, xv]).events P (w.at d) #[], ev.isRead ∨ (∃ ad, ev.loc = .cell ad ∧ some ad.block = v.ownBlock) ∨ ∃ m, ev = ⟨.mark m, false, true⟩ ∧ Conc.Neutral m)
    (hg : (w.at d).grownBy w' v.ownBlock) (hf : σ.Free fun c => some c = v.ownBlock) : OkayQ σ (w.at d) w' (listed P fn a o (w.at d)) := by
  have hE : ∀ e ∈ listed P fn a o (w.at d), e ∈ (Builtin.append_ #[t, t] o.type #[v, xv]).events P (w.at d) #[] := fun e he => by
    have := mem_listed he
    unfold execOp at this
    simpa [hop, resolve, invoke, builtin, hes, hex] using this
  refine okay_within (at_sound hs d) (B := fun c => some c = v.ownBlock) ⟨hg.size, fun b hb hB => hg.block b hb hB, fun e he u hu hw a hl => ?_, fun e he => ?_, hg.os, hg.output⟩ hf
  · rcases hev e (hE e he) with h | ⟨ad, h1, h2⟩ | ⟨m, rfl, _⟩
    · obtain ⟨a', h1, h2⟩ := h
      have : EvGood e := by
        obtain ⟨loc, wr, sy⟩ := e
        simp only at h1 h2
        subst h1; subst h2
        exact evGood_read _ _
      rw [this.2.2 u hu] at hw; cases hw
    · left
      obtain ⟨loc, wr, sy⟩ := e
      simp only at h1
      subst h1
      cases wr <;> cases sy <;> simp [MemAct.ofEvent, MemAct.touch?] at hu <;> subst hu <;> simp at hl <;> subst hl <;> exact h2
    · rename_i hm
      obtain rfl := hm
      simp [MemAct.ofEvent, MemAct.touch?] at hu
  · rcases hev e (hE e he) with h | ⟨ad, h1, h2⟩ | ⟨m, rfl, hm⟩
    · obtain ⟨a', h1, h2⟩ := h
      rw [h1]; exact ⟨by simp, by simp⟩
    · rw [h1]; exact ⟨by simp, by simp⟩
    · exact ⟨fun h => hm.ne_disable (Loc.mark.inj h), fun h => hm.ne_enable (Loc.mark.inj h)⟩

section
variable {i : Nat} {rest : List Nat} {o : Oper} {s x : Operand} {t e : TypeId} {ti : TypeInfo} {z : Value} {size bytes : Nat}
theorem append_run {fn : FuncId} (hop : o.op = .call { callee := .builtin .append, args := #[s, x], argTypes := #[t, t] })
    (ht : P.underlying t = some (.slice e)) (hi : P.info? e = some ti) (hz : ti.zero = some z) (hsize : ti.size = size) (hby : ti.bytes = bytes) (hzs : z.cells.size = size) (hsz : 0 < size)
    {base : Nat} {v : Value} {n : Nat} {xs : List Value} (hes : a.eval s = v) (hown : w.ownsRow base e size v n xs)
    {ad : Addr} {m c : Nat} {news : List Value} (hex : a.eval x = .slice (some ad) m c) (hl : news.length = m * size) (hnews : ∀ j u, news[j]? = some u → w.cell? (ad.add j) = some u) (h1 : ∀ u ∈ news, u.oneCell' = true)
    (h63 : n + m ≤ maxLen) (hbytes : (n + m) * bytes ≤ 140737488355328) (hbase : base ≤ w.heap.size) (hf : σ.Free fun c => some c = v.ownBlock) (d : Nat) (hs : σ.Sound w) :
    ∃ v' w', (execOp a.eval o).run P (w.at d) = .ok (.value v') w' ∧ OkayQ σ (w.at d) w' (listed P fn a o (w.at d)) ∧ w'.ownsRow base e size v' (n + m) (xs ++ news) ∧ w.grownBy w' v.ownBlock ∧
      (v' = .slice none 0 0 ↔ v = .slice none 0 0 ∧ m = 0) ∧ (v'.ownBlock = v.ownBlock ∨ v'.ownBlock = some w.heap.size) := by
  obtain ⟨v', w', hr, ho, hg, hnil, hb⟩ := run_append_own_at (w := w.at d) base t o.type e ti z size bytes ht hi hz hsize hby hzs hsz v n xs hown ad m c news hl hnews h1 h63 (Nat.le_trans hbytes (by decide)) hbase
  have hE := events_append_own (w.at d) base t o.type e ti z size bytes ht hi hz hsize hby v n xs hown ad m c news hl hnews h1 h63 hbytes
  refine ⟨v', w', ?_, okayQ_append hs hop hes hex hE hg hf, ho, ⟨hg.os, hg.tape, hg.output, hg.size, hg.block⟩, hnil, hb⟩
  unfold execOp
  simp only [hop, resolve, invoke, builtin, Sem.run_bind, Sem.run_pure, Result.andThen_ok, List.map_toArray, List.map_cons, List.map_nil, hes, hex, hr]

/-- AN APPEND to a slice of one's own. -/
theorem y_append (ho : ops[i]? = some o) (hw : Region.wanted o (yielded ops a.tmps) = true) (hk : (b.kind == CallKind.early) = false) (hop : o.op = .call { callee := .builtin .append, args := #[s, x], argTypes := #[t, t] })
    (ht : P.underlying t = some (.slice e)) (hi : P.info? e = some ti) (hz : ti.zero = some z) (hsize : ti.size = size) (hby : ti.bytes = bytes) (hzs : z.cells.size = size) (hsz : 0 < size)
    (base : Nat) {v : Value} {n : Nat} {xs : List Value} (hes : a.eval s = v) (hown : w.ownsRow base e size v n xs)
    {ad : Addr} {m c : Nat} {news : List Value} (hex : a.eval x = .slice (some ad) m c) (hl : news.length = m * size) (hnews : ∀ j u, news[j]? = some u → w.cell? (ad.add j) = some u) (h1 : ∀ u ∈ news, u.oneCell' = true)
    (h63 : n + m ≤ maxLen) (hbytes : (n + m) * bytes ≤ 140737488355328) (hbase : base ≤ w.heap.size) (hf : σ.Free fun c => some c = v.ownBlock)
    (h : ∀ v' w', w'.ownsRow base e size v' (n + m) (xs ++ news) → w.grownBy w' v.ownBlock → (v' = .slice none 0 0 ↔ v = .slice none 0 0 ∧ m = 0) → (v'.ownBlock = v.ownBlock ∨ v'.ownBlock = some w.heap.size) →
      J.Y σ (G (b.at (a.put o.dst v') (.inRegion ops rest :: k)) cs) w') : J.Y σ (G (b.at a (.inRegion ops (i :: rest) :: k)) cs) w := by
  refine y_op ho hw hk fun d hs K hK => ?_
  obtain ⟨v', w', hr, hok, h1, h2, h3, h4⟩ := append_run (P := P) (fn := b.fn) hop ht hi hz hsize hby hzs hsz hes hown hex hl hnews h1 h63 hbytes hbase hf d hs
  rw [hr]
  exact hK (.act (a.put o.dst v')) w' w'.drawn hok (h v' w' h1 h2 h3 h4)

theorem opX_append {K : Act → Cfg → World → Prop} (ho : ops[i]? = some o) (hw : Region.wanted o (yielded ops a.tmps) = true) (hop : o.op = .call { callee := .builtin .append, args := #[s, x], argTypes := #[t, t] })
    (ht : P.underlying t = some (.slice e)) (hi : P.info? e = some ti) (hz : ti.zero = some z) (hsize : ti.size = size) (hby : ti.bytes = bytes) (hzs : z.cells.size = size) (hsz : 0 < size)
    (base : Nat) {v : Value} {n : Nat} {xs : List Value} (hes : a.eval s = v) (hown : w.ownsRow base e size v n xs)
    {ad : Addr} {m c : Nat} {news : List Value} (hex : a.eval x = .slice (some ad) m c) (hl : news.length = m * size) (hnews : ∀ j u, news[j]? = some u → w.cell? (ad.add j) = some u) (h1 : ∀ u ∈ news, u.oneCell' = true)
    (h63 : n + m ≤ maxLen) (hbytes : (n + m) * bytes ≤ 140737488355328) (hbase : base ≤ w.heap.size) (hf : σ.Free fun c => some c = v.ownBlock)
    (h : ∀ v' w', w'.ownsRow base e size v' (n + m) (xs ++ news) → w.grownBy w' v.ownBlock → (v' = .slice none 0 0 ↔ v = .slice none 0 0 ∧ m = 0) → (v'.ownBlock = v.ownBlock ∨ v'.ownBlock = some w.heap.size) → K (a.put o.dst v') σ w') : OpX J fn ops i K a σ w := by
  unfold OpX
  simp only [ho, hw, if_true]
  intro d hs
  obtain ⟨v', w', hr, hok, h1, h2, h3, h4⟩ := append_run (P := P) (fn := fn) hop ht hi hz hsize hby hzs hsz hes hown hex hl hnews h1 h63 hbytes hbase hf d hs
  rw [hr]
  exact ⟨w', w'.drawn, rfl, hok, h v' w' h1 h2 h3 h4⟩
end
end
end Go.TX
