/- Main lets a thread go, up to where it stands. -/
import Derived.Test.YtcibnfjpagmdaaaProm
set_option linter.unusedSimpArgs false
set_option linter.unusedVariables false
set_option maxRecDepth 100000
namespace Go.Proofs.Ytcibnfjpagmdaaa
open Go.TX Go.Conc Go.RowKit Go.MapKept
open Go.ConcN (upd upd_ne upd_same)
variable {Fin : Machine → Trace → Prop} {A : GA} {j : Nat} {gs : Nat → Goroutine} {gm : Goroutine} {os : Os} {out : Array (Nat × ByteArray)} {w : World} {σ : Cfg}

theorem gave_cfg (h0 : 0 < A.n0) (hj : j < A.p.nth) {gm' : Goroutine} : (cfgOf A none gs gm os out).gave (A.n0 + j) (some (seatM A gm' j)) = cfgOf A (some j) gs gm' os out := by
  unfold Cfg.gave cfgOf
  simp only [Cfg.mk.injEq, true_and, and_true]
  funext x
  by_cases e : x = 0
  · subst e; rw [upd_same]; simp [seatOf]
  · rw [upd_ne _ _ e]
    by_cases e2 : x = A.n0 + j
    · subst e2; rw [upd_same]; simp [seatOf, e]; intro; omega
    · rw [upd_ne _ _ e2]
      simp only [seatOf, e, if_false]
      by_cases e3 : A.n0 ≤ x
      · have : some j ≠ some (x - A.n0) := fun h => by have := Option.some.inj h; omega
        simp [this]
      · simp [e3]

theorem setChan_same {w : World} {c k : Nat} {k' : Nat} (h : w.heap[c]? = some (.chan 0 #[] false k k false)) : SetB w (w.setChan c 0 #[] false k' k' false) c (.chan 0 #[] false k' k' false) := by
  refine ⟨heap_setChan_self w h _ _ _ _ _ _, ?_, fun d hd => heap_setChan_ne w _ _ _ _ _ _ (fun e => hd e.symm)⟩
  unfold World.setChan; simp

/-- One of the channels has counted on. -/
theorem GMem.chan {run : Option Nat} {w' : World} {c k : Nat} (M : GMem A run w) (S : SetB w w' c (.chan 0 #[] false k k false)) (hc : ∃ k, w.heap[c]? = some (.chan 0 #[] false k k false)) : GMem A run w' := by
  obtain ⟨k0, hc⟩ := hc
  have ne : ∀ {b : Nat} {o : Obj}, w.heap[b]? = some o → (∀ x y z u v t, o ≠ .chan x y z u v t) → w'.heap[b]? = some o := fun {b o} hb ho => by
    by_cases e : b = c
    · subst e; rw [hc] at hb; exact absurd (Option.some.inj hb).symm (ho _ _ _ _ _ _)
    · exact (S.other b e).trans hb
  have ch : ∀ {b : Nat}, (∃ k, w.heap[b]? = some (.chan 0 #[] false k k false)) → ∃ k, w'.heap[b]? = some (.chan 0 #[] false k k false) := fun {b} ⟨k1, hb⟩ => by
    by_cases e : b = c
    · subst e; exact ⟨k, S.is⟩
    · exact ⟨k1, (S.other b e).trans hb⟩
  have row : ∀ {e : TypeId} {s : Nat} {v : Value} {n : Nat} {xs : List Value}, w.ownsRow 0 e s v n xs → w'.ownsRow 0 e s v n xs := fun hr => row_later hr fun k hk => by
    obtain ⟨_, _, cur, hcur⟩ := row_ty hr hk
    exact (ne hcur (by simp)).trans hcur.symm
  exact { runs := ne M.runs (by simp [runObj]), mapo := ne M.mapo (by simp), thr := fun i hi => ne (M.thr i hi) (by simp [thrObj]), wkc := fun i hi => ch (M.wkc i hi), sdc := fun i hi => ch (M.sdc i hi), tcc := fun i hi => ne (M.tcc i hi) (by simp), rcc := fun i hi => ne (M.rcc i hi) (by simp), fcc := fun i hi => ne (M.fcc i hi) (by simp), ths := row M.ths, logs := row M.logs, went := row M.went, ready := row M.ready, fell := row M.fell, cell := fun c hc => ne (M.cell c hc) (by simp), cnc := M.cnc, cnd := M.cnd, stand := fun i a hi hr hs => ⟨(M.stand i a hi hr hs).1, (M.stand i a hi hr hs).2.1, (M.stand i a hi hr hs).2.2.1, (M.stand i a hi hr hs).2.2.2.1, fun hst => ne ((M.stand i a hi hr hs).2.2.2.2 hst) (by simp)⟩, born := M.born, small := M.small, apart := M.apart, chans := M.chans, owns := M.owns }

/-- .. in whatever state in which the thread sits at its channel. -/
theorem goes_any {rr : Option Nat} {c : Frame} {cs : List Frame} (M : GMem A rr w) (hj : j < A.p.nth) (hh : σ.h = 0) (hdl : σ.dl = 0) (h0 : 0 < A.n0) (hseat : σ.seat (A.n0 + j) = some (seatT A (gs j) j)) (hne : ∀ i s', σ.seat i = some s' → s'.c ≠ A.sd j)
    (hgave : ∀ gm', σ.gave (A.n0 + j) (some (seatM A gm' j)) = cfgOf A (some j) gs gm' os out)
    (hX : ∀ gm' k w1, SetB w w1 (A.wk j) (.chan 0 #[] false k k false) → GMem A rr w1 → (∀ σ' w', X Try.prog Fin σ' (G (c.finish (.tuple #[])) cs) w' → X Try.prog Fin σ' (Go.Conc.served gm' unitV) w') → X Try.prog Fin (cfgOf A (some j) gs gm' os out) (Go.Conc.served (gs j) unitV) w1) :
    (tokenJ Try.prog Fin).Y σ (G (Frame.enter Try.prog 173 #[.pointer (some ⟨A.tb j, 0, none⟩)] .normal) (c :: cs)) w := by
  have ht := M.thr j hj
  have c2 : w.cell? ⟨A.tb j, 2, none⟩ = some (.chan (some (A.wk j))) := by unfold World.cell?; rw [ht]; rfl
  have c3 : w.cell? ⟨A.tb j, 3, none⟩ = some (.chan (some (A.sd j))) := by unfold World.cell?; rw [ht]; rfl
  obtain ⟨kw, hkw⟩ := M.wkc j hj
  obtain ⟨ks, hks⟩ := M.sdc j hj
  rw [enter_at _ Try.func173 rfl]
  simp only [Try.f173, Try.ntmps173, List.size_toArray, List.length_cons, List.length_nil, Nat.reduceAdd, Nat.reduceSub, Nat.zero_add, Array.replicate_succ, Array.replicate_zero, List.push_toArray, List.append_toArray, List.nil_append, List.cons_append, List.append_nil]
  replace hX := Keep.mk hX
  replace hne := Keep.mk hne
  replace hgave := Keep.mk hgave
  replace hseat := Keep.mk hseat
  replace hh := Keep.mk hh
  replace hdl := Keep.mk hdl
  repeat (first
    | refine y_go rfl ?_
    | (refine y_region ?_; simp only [rg, Nat.reduceAdd, List.range, List.range.loop])
    | (refine y_nw rfl (by rfl) rfl (by exact nx rfl) (fun dd hS K hK => ?_); go_simp; refine hK _ _ _ ?_; clear hK K hS dd; simp only [recOf]; try walk_nrm)
    | (refine y_unwanted rfl (by rfl) ?_; try walk_nrm) | refine y_condT rfl ?_ | refine y_condF rfl ?_
    | refine y_block ?_ | refine y_label ?_ | refine y_ret ?_ | refine y_end ?_)
  refine x_send (z' := .tuple #[]) (v := unitV) (c := A.sd j) (z := unitV) (still := (seatM A (gs j) j).still) (Q := fun gm' => ∀ σ' w', X Try.prog Fin σ' (G (c.finish (.tuple #[])) cs) w' → X Try.prog Fin σ' (Go.Conc.served gm' unitV) w') hseat.out ?_ hdl.out rfl ?_ rfl ?_ ?_ ?_ ?_ ⟨ks, hks⟩ hne.out ?_
  · rw [hh.out]; omega
  · rfl
  · exact fun w => by simp [execOp, scase, Act.eval, seatT, unitV]
  · exact fun w => by simp [go_sem, execOp, Act.eval]
  · try walk_nrm
    rw [hh.out]
    unfold seatM
    repeat (first
      | refine way_regionEnd ?_ | refine way_seq ?_
      | (refine way_region ?_; simp only [rg, Nat.reduceAdd, List.range, List.range.loop])
      | (refine' way_op _ rfl (by rfl) rfl ?_ ?_ ?_; rotate_left; (focus (intro w; simp [go_sem, execOp, Act.eval]; rfl)); (focus (intro w; simp [go_sem, execOp, Act.eval]; done)); try walk_nrm)
      | (refine' way_load _ _ rfl (by rfl) rfl (List.mem_cons_self ..) ?_ ?_ ?_ ?_; (focus (intro w hw; simp [go_sem, execOp, Act.eval, hw]; done)); (focus (kernel_rfl; done)); (focus (intro w hw; simp [go_sem, execOp, Act.eval, hw]; done)); try walk_nrm)
      | (refine' way_load _ _ rfl (by rfl) rfl (List.mem_cons_of_mem _ (List.mem_cons_self ..)) ?_ ?_ ?_ ?_; (focus (intro w hw; simp [go_sem, execOp, Act.eval, hw]; done)); (focus (kernel_rfl; done)); (focus (intro w hw; simp [go_sem, execOp, Act.eval, hw]; done)); try walk_nrm)
      | (refine way_defer rfl (by rfl) rfl rfl rfl ?_; try walk_nrm)
      | (refine way_at rfl (by rfl) rfl ?_ ?_ ?_; (focus (intro w; simp [go_sem, execOp, rcase, Act.eval, unitV]; done)); (focus (intro w; simp [go_sem, execOp, Act.eval]; done))))
    intro σ' w' hY
    rw [served_fr, Frame.finish_at]
    walk_nrm
    show (tokenJ Try.prog Fin).Y σ' _ w'
    repeat (first
      | refine y_go rfl ?_
      | (refine y_region ?_; simp only [rg, Nat.reduceAdd, List.range, List.range.loop])
      | (refine y_nw rfl (by rfl) rfl (by exact nx rfl) (fun dd hS K hK => ?_); go_simp; refine hK _ _ _ ?_; clear hK K hS dd; simp only [recOf]; try walk_nrm)
      | (refine y_unwanted rfl (by rfl) ?_; try walk_nrm) | refine y_condT rfl ?_ | refine y_condF rfl ?_
      | refine y_block ?_ | refine y_label ?_ | refine y_ret ?_ | refine y_end ?_)
    exact y_leave rfl rfl Try.func173 (resultsC_none rfl _) hY
  · intro p hp
    simp [seatM] at hp
    subst hp
    exact c3
  · intro gm' k hQ
    have S := setChan_same (k' := k + 1) hkw
    have h := hX.out gm' (k + 1) _ S (M.chan S ⟨kw, hkw⟩) hQ
    rw [← hgave.out gm'] at h
    exact h

theorem goes_core {c : Frame} {cs : List Frame} (h0 : 0 < A.n0) (M : GMem A none w) (hj : j < A.p.nth) (hl : (A.p.st j).lives = true)
    (hX : ∀ gm' k w1, SetB w w1 (A.wk j) (.chan 0 #[] false k k false) → GMem A none w1 → (∀ σ' w', X Try.prog Fin σ' (G (c.finish (.tuple #[])) cs) w' → X Try.prog Fin σ' (Go.Conc.served gm' unitV) w') → X Try.prog Fin (cfgOf A (some j) gs gm' os out) (Go.Conc.served (gs j) unitV) w1) :
    (tokenJ Try.prog Fin).Y (cfgOf A none gs gm os out) (G (Frame.enter Try.prog 173 #[.pointer (some ⟨A.tb j, 0, none⟩)] .normal) (c :: cs)) w := by
  refine goes_any M hj rfl rfl h0 (seat_thr h0 hj (by simp) hl) (fun i s' hs => ?_) (fun gm' => gave_cfg h0 hj) hX
  rcases seat_cases hs with ⟨_, i, hi, _⟩ | ⟨i, _, hi, _, _, rfl⟩
  · cases hi
  · exact fun e => M.chans.2 j i hj hi e.symm
end Go.Proofs.Ytcibnfjpagmdaaa
