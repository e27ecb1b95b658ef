/- The machine's side of the token: one goroutine holds it; every other has a seat at one unbuffered channel of its own, or only leaves. 'X s g w': from whatever machine that fits the configuration s, its holder at record g in world w, the run comes to its goal on whatever tape. -/
import Derived.Test.YtcibnfjpagmdaaaTrace
namespace Go.TX
open Go.Conc
open Go.ConcN (sumTo upd sumTo_upd upd_ne upd_same)

/-- A seat: the channel at which its goroutine will receive, the channel's zero value, the record that the receive hands on, what it reads on its way there. -/
structure SeatX where
  c : Nat
  z : Value
  g : Goroutine
  still : List (Addr × Value)

def SeatX.S (s : SeatX) : Loc → Prop := fun l => ∃ p ∈ s.still, l = .cell p.1
def SeatX.K (s : SeatX) (w : World) : Prop := ∀ p ∈ s.still, w.cell? p.1 = some p.2
theorem SeatX.S_mem (s : SeatX) (l : Loc) (h : s.S l) : l.isMemory = true := by obtain ⟨p, _, rfl⟩ := h; rfl

/-- It stands at its receive. -/
def AtInX (P : Program) (main : Bool) (s : SeatX) (g : Goroutine) : Prop :=
  g.status = .running ∧ ∀ w, stepG P main g w = .comm s.g #[rcase s.c s.z] true (.recv false) w #[]
/-- On its way there: steps that leave the world and read still places alone. -/
def OnWay (P : Program) (main : Bool) (s : SeatX) : Nat → Goroutine → Prop
  | 0, g => AtInX P main s g
  | n + 1, g => AtInX P main s g ∨ (g.status = .running ∧ ∃ g' es, (∀ e ∈ es, ∃ p ∈ s.still, e = ⟨.cell p.1, false, false⟩) ∧ (∀ w, s.K w → stepG P main g w = .go g' w es) ∧ OnWay P main s n g')
def SitsX (P : Program) (main : Bool) (s : SeatX) (n : Nat) (g : Goroutine) : Prop :=
  (n = 0 ∧ g = parked s.g #[rcase s.c s.z] (.recv false)) ∨ ∃ k, n = k + 1 ∧ OnWay P main s k g

structure Cfg where
  n : Nat
  h : Nat
  dl : Nat
  seat : Nat → Option SeatX
  os : Os
  out : Array (Nat × ByteArray)

def Cfg.St (σ : Cfg) (g : Nat) : Option (Loc → Prop) := (σ.seat g).map SeatX.S

def IdleX (P : Program) (T : Trace) (i n : Nat) (g : Goroutine) : Option SeatX → Prop
  | none => 0 < i ∧ QuitsD P n (Deaf T i) g
  | some s => SitsX P (i == 0) s n g

structure TRing (P : Program) (σ : Cfg) (T : Trace) (gs : Array Goroutine) (w : World) (q : Nat → Nat) : Prop where
  size : gs.size = σ.n
  idle : ∀ i g, i ≠ σ.h → gs[i]? = some g → IdleX P T i (q i) g (σ.seat i)
  chans : ∀ i s, σ.seat i = some s → ∃ k, w.heap[s.c]? = some (.chan 0 #[] false k k false)
  keep : ∀ i s, σ.seat i = some s → s.K w
  inj : ∀ i i' s s', σ.seat i = some s → σ.seat i' = some s' → s.c = s'.c → i = i'
  above : ∀ j, σ.n ≤ j → Deaf T j = 0
  hold : σ.seat σ.h = none
  inn : ∀ i s, σ.seat i = some s → i < σ.n
  past : PastX σ.St σ.h σ.dl T
  io : w.os = σ.os ∧ w.output = σ.out

section
variable {P : Program} {s : SeatX} {main : Bool} {n : Nat} {g : Goroutine}
theorem OnWay.status {n : Nat} (h : OnWay P main s n g) : g.status = .running := by
  cases n with
  | zero => exact h.1
  | succ n => exact h.elim (·.1) (·.1)
theorem SitsX.status (h : SitsX P main s n g) : (g.status = .running ∧ 0 < n) ∨ (g.status = .blocked ∧ n = 0) := by
  rcases h with ⟨rfl, rfl⟩ | ⟨k, rfl, h⟩
  · exact .inr ⟨rfl, rfl⟩
  · exact .inl ⟨h.status, by omega⟩
end

section
variable {P : Program} {σ : Cfg} {T : Trace} {gs : Array Goroutine} {w : World} {q : Nat → Nat}

theorem St_none {i : Nat} (h : σ.seat i = none) : σ.St i = none := by simp [Cfg.St, h]
theorem St_some {i : Nat} {s : SeatX} (h : σ.seat i = some s) : σ.St i = some s.S := by simp [Cfg.St, h]
theorem St_elim {i : Nat} {S : Loc → Prop} (h : σ.St i = some S) : ∃ s, σ.seat i = some s ∧ S = s.S := by
  unfold Cfg.St at h
  obtain ⟨s, hs, rfl⟩ := Option.map_eq_some_iff.1 h
  exact ⟨s, hs, rfl⟩

theorem TRing.fixed (R : TRing P σ T gs w q) {x : Nat} {y : Goroutine} (hx : x ≠ σ.h) (hy : gs[x]? = some y) : y.again w = y := by
  have h := R.idle x y hx hy
  cases e : σ.seat x with
  | none => rw [e] at h; exact again_of_running h.2.status w
  | some s =>
    rw [e] at h
    rcases h with ⟨_, rfl⟩ | ⟨k, _, h⟩
    · obtain ⟨k, hk⟩ := R.chans x s e
      exact again_recv_open hk
    · exact again_of_running (.inl h.status) w

theorem TRing.noSend (R : TRing P σ T gs w q) {x : Nat} {y : Goroutine} (hx : x ≠ σ.h) (hy : gs[x]? = some y) (c : Nat) : offersAt y c true = [] := by
  have h := R.idle x y hx hy
  cases e : σ.seat x with
  | none =>
    rw [e] at h
    exact offersAt_of_not_blocked (fun hb => by rcases h.2.status with z | z <;> rw [z] at hb <;> cases hb) c true
  | some s =>
    rw [e] at h
    rcases h with ⟨_, rfl⟩ | ⟨k, _, h⟩
    · exact offersAt_parked_recv' _ _ _ _ _
    · exact offersAt_of_not_blocked (fun hb => by rw [h.status] at hb; cases hb) c true

theorem TRing.noRecv (R : TRing P σ T gs w q) {x : Nat} {y : Goroutine} (hx : x ≠ σ.h) (hy : gs[x]? = some y) {c : Nat} (hc : ∀ s, σ.seat x = some s → s.c ≠ c) : offersAt y c false = [] := by
  have h := R.idle x y hx hy
  cases e : σ.seat x with
  | none =>
    rw [e] at h
    exact offersAt_of_not_blocked (fun hb => by rcases h.2.status with z | z <;> rw [z] at hb <;> cases hb) c false
  | some s =>
    rw [e] at h
    rcases h with ⟨_, rfl⟩ | ⟨k, _, h⟩
    · rw [offersAt_parked_recv, if_neg (hc s e)]
    · exact offersAt_of_not_blocked (fun hb => by rw [h.status] at hb; cases hb) c false

theorem TRing.at (R : TRing P σ T gs w q) (d : Nat) : TRing P σ T gs (w.at d) q :=
  ⟨R.size, R.idle, R.chans, R.keep, R.inj, R.above, R.hold, R.inn, R.past, R.io⟩

theorem TRing.awake (R : TRing P σ T gs w q) {a : Goroutine} (ha : gs[σ.h]? = some a) (hs : a.status = .running ∨ a.status = .blocked) : ∀ g ∈ gs, awake g := by
  intro g hg
  obtain ⟨i, hi, rfl⟩ := Array.mem_iff_getElem.1 hg
  by_cases e : i = σ.h
  · subst e
    have : gs[σ.h] = a := by simpa [Array.getElem?_eq_getElem hi] using ha
    rw [this]; exact awake_of (hs.elim .inl fun x => .inr (.inl x))
  · have hid := R.idle i _ e (Array.getElem?_eq_getElem hi)
    cases es : σ.seat i with
    | none => rw [es] at hid; exact awake_of (hid.2.status.elim .inl fun x => .inr (.inr x))
    | some s => rw [es] at hid; exact awake_of ((SitsX.status hid).elim (fun x => .inl x.1) fun x => .inr (.inl x.1))

/-- One bystander's record is laid anew; the world stands. -/
theorem TRing.put (R : TRing P σ T gs w q) {i n' : Nat} {g' : Goroutine} {ops : Array MemOp} {gs' : Array Goroutine} (hih : i ≠ σ.h) (hlt : i < gs.size) (hsz : gs'.size = gs.size) (hother : ∀ x, x ≠ i → gs'[x]? = gs[x]?) (hself : gs'[i]? = some g')
    (hops : ∀ op ∈ ops, op.g = i) (hidle : IdleX P (T ++ ops) i n' g' (σ.seat i)) (hpast : PastX σ.St σ.h σ.dl (T ++ ops)) : TRing P σ (T ++ ops) gs' w (upd q i n') := by
  refine ⟨hsz.trans R.size, fun x y hx hy => ?_, R.chans, R.keep, R.inj, fun j hj => ?_, R.hold, R.inn, hpast, R.io⟩
  · by_cases e : x = i
    · subst e
      rw [hself] at hy
      obtain rfl := Option.some.inj hy
      rw [upd_same]; exact hidle
    · rw [hother x e] at hy
      rw [upd_ne q n' e]
      have h := R.idle x y hx hy
      cases es : σ.seat x with
      | none => rw [es] at h; exact ⟨h.1, by rw [Deaf_other T (fun z => e z.symm) ops hops]; exact h.2⟩
      | some s => rw [es] at h; exact h
  · rw [Deaf_other T (g' := i) (by have := R.size; omega) ops hops]
    exact R.above j hj

theorem ofEv_g {i : Nat} {fn : FuncId} {pos : String} {es : Array Event} : ∀ op ∈ MemOp.ofEvents i fn pos es, op.g = i := fun op hop => by obtain ⟨e, _, rfl⟩ := Go.Conc.mem_ofEvents hop; rfl

/-- A BYSTANDER's STEP: the frame stands, the holder's record and the world are as they were, the measure falls. -/
theorem TRing.by_step (R : TRing P σ T gs w q) {i : Nat} {g H : Goroutine} {sl : Option (Nat × Nat)} (hi : gs[i]? = some g) (hih : i ≠ σ.h) (hrun : g.status = .running) (hH : gs[σ.h]? = some H) (hA : H.again w = H)
    (hO : ∀ s, σ.seat i = some s → AtInX P (i == 0) s g → offersAt H s.c true = []) :
    ∃ (gs' : Array Goroutine) (ops : Array MemOp) (q' : Nat → Nat), runT P (crowd gs w sl) i = (.next (crowd gs' w sl), ops) ∧ gs'[σ.h]? = some H ∧ (∀ x, x ≠ i → q' x = q x) ∧
      (∀ s, σ.seat i = some s → q' i = 0 → AtInX P (i == 0) s g) ∧ TRing P σ (T ++ ops) gs' w q' ∧ sumTo σ.n q' < sumTo σ.n q := by
  have hlt : i < gs.size := (Array.getElem?_eq_some_iff.1 hi).1
  have hfix : ∀ (a a' : Goroutine) (x : Nat) (y : Goroutine), gs[x]? = some y → woken P a a' w y = y := fun a a' x y hy => woken_of_again (by
    by_cases hx : x = σ.h
    · subst hx; rw [hH] at hy; obtain rfl := Option.some.inj hy; exact hA
    · exact R.fixed hx hy)
  have harr : ∀ (a' g' : Goroutine) (x : Nat), x ≠ i → ((gs.map (woken P g a' w)).setIfInBounds i g')[x]? = gs[x]? := by
    intro a' g' x hx
    rw [Array.getElem?_setIfInBounds_ne (fun e => hx e.symm), Array.getElem?_map]
    cases e : gs[x]? with
    | none => rfl
    | some y => simp [hfix g a' x y e]
  have hself : ∀ (a' g' : Goroutine), ((gs.map (woken P g a' w)).setIfInBounds i g')[i]? = some g' := fun a' g' => Array.getElem?_setIfInBounds_self_of_lt (by simpa using hlt)
  have hsum : ∀ m k, q i = m → k < m → sumTo σ.n (upd q i k) < sumTo σ.n q := by
    intro m k hqi hk
    have h2 : sumTo σ.n (upd q i k) + m = sumTo σ.n q + k := by
      have := sumTo_upd q k id (show i < σ.n from R.size ▸ hlt)
      simpa [hqi] using this
    omega
  have hid := R.idle i g hih hi
  cases e : σ.seat i with
  | none =>
    rw [e] at hid
    obtain ⟨hpos, hq⟩ := hid
    have hi0 : (i == 0) = false := by simp; omega
    cases hqi : q i with
    | zero => rw [hqi] at hq; rw [hq.1] at hrun; cases hrun
    | succ k =>
      rw [hqi] at hq
      rcases hq with ⟨hf, _⟩ | ⟨_, g', es, hm, hstp, hq'⟩
      · rw [hf] at hrun; cases hrun
      refine ⟨_, _, upd q i k, runT_crowd_go (sl := sl) hi (by rw [hi0]; exact hstp w), (harr _ _ _ (Ne.symm hih)).trans hH, fun x hx => upd_ne q k hx, fun s hs _ => (by cases hs), ?_, hsum _ k hqi (by omega)⟩
      refine R.put hih hlt (by simp) (harr _ _) (hself _ _) ofEv_g (by rw [e]; exact ⟨hpos, by rw [Deaf_own]; exact hq'⟩) ?_
      exact R.past.appMute hih (St_none e) ofEv_g (fun op hop => by obtain ⟨e, he, rfl⟩ := Go.Conc.mem_ofEvents hop; exact touch_mute (hm e he))
  | some s =>
    rw [e] at hid
    obtain ⟨k, hqi, hw⟩ : ∃ k, q i = k + 1 ∧ OnWay P (i == 0) s k g := by
      rcases hid with ⟨_, rfl⟩ | h
      · cases hrun
      · exact h
    have hcase : AtInX P (i == 0) s g ∨ ∃ k' g' es, k = k' + 1 ∧ stepG P (i == 0) g w = .go g' w es ∧ (∀ e ∈ es, ∃ p ∈ s.still, e = ⟨.cell p.1, false, false⟩) ∧ OnWay P (i == 0) s k' g' := by
      cases k with
      | zero => exact .inl hw
      | succ k' =>
        rcases hw with h | ⟨_, g', es, hes, hst, hw'⟩
        · exact .inl h
        · exact .inr ⟨k', g', es, rfl, hst w (R.keep i s e), hes, hw'⟩
    rcases hcase with hat | ⟨k', g', es, rfl, hgo, hes, hw'⟩
    · have hoff := hO s e hat
      obtain ⟨kk, hc⟩ := R.chans i s e
      have hnw : ∀ cc ∈ #[rcase s.c s.z], NoWays w (gs.setIfInBounds i ph) cc := by
        intro cc hcc
        simp only [List.mem_toArray, List.mem_cons, List.not_mem_nil, or_false] at hcc
        subst hcc
        refine ways_recv_none hc (partners_nil fun x y hy => ?_)
        rcases getElem?_stand gs i x y hy with ⟨_, rfl⟩ | ⟨_, hy'⟩
        · exact offersAt_ph _ _
        · by_cases hx : x = σ.h
          · subst hx; rw [hH] at hy'; obtain rfl := Option.some.inj hy'; exact hoff
          · exact R.noSend hx hy' _
      refine ⟨_, _, upd q i 0, crowd_waits (sl := sl) hi (hat.2 w) hnw, (Array.getElem?_setIfInBounds_ne hih).trans hH, fun x hx => upd_ne q 0 hx, fun s' hs' _ => (by rw [← Option.some.inj hs']; exact hat), ?_, hsum _ 0 hqi (by omega)⟩
      have e0 : MemOp.ofEvents i g.frame.fn g.frame.place #[] = #[] := by simp [MemOp.ofEvents]
      rw [e0]
      refine R.put (ops := #[]) hih hlt (by simp) (fun x hx => Array.getElem?_setIfInBounds_ne (fun z => hx z.symm)) (Array.getElem?_setIfInBounds_self_of_lt hlt) (by simp) (by rw [e]; exact .inl ⟨rfl, rfl⟩) ?_
      simpa using R.past
    · refine ⟨_, _, upd q i (k' + 1), runT_crowd_go (sl := sl) hi hgo, (harr _ _ _ (Ne.symm hih)).trans hH, fun x hx => upd_ne q _ hx, fun s' _ h0 => (by rw [upd_same] at h0; omega), ?_, hsum _ _ hqi (by omega)⟩
      refine R.put hih hlt (by simp) (harr _ _) (hself _ _) ofEv_g (by rw [e]; exact .inr ⟨k', rfl, hw'⟩) ?_
      refine R.past.appRead hih (St_some e) ofEv_g (fun op hop b hb => ?_) ?_
      · obtain ⟨ev, he, rfl⟩ := Go.Conc.mem_ofEvents hop
        obtain ⟨p, hp, rfl⟩ := hes ev he
        simp only [ofEvent_cell0, MemAct.touch?, Option.some.injEq] at hb
        subst hb
        exact ⟨rfl, p, hp, rfl⟩
      · rw [Deaf_own]
        exact deafBehind_still (fun ev he => by obtain ⟨p, _, rfl⟩ := hes ev he; exact ⟨by simp, by simp⟩) _
end

/-! ### the judgement -/

def Ev (P : Program) (Fin : Machine → Trace → Prop) (m : Machine) (T : Trace) : Prop := ∃ N m' T', runNT P N m T = (.next m', T') ∧ Fin m' T'
theorem Ev.step {P : Program} {Fin : Machine → Trace → Prop} {m m' : Machine} {T ops : Trace} (hs : stepT P m = (.next m', ops)) (h : Ev P Fin m' (T ++ ops)) : Ev P Fin m T := by
  obtain ⟨N, m'', T'', hr, hf⟩ := h
  exact ⟨N + 1, m'', T'', by simp only [runNT, hs]; exact hr, hf⟩

def X (P : Program) (Fin : Machine → Trace → Prop) (σ : Cfg) (g : Goroutine) (w : World) : Prop :=
  ∀ (gs : Array Goroutine) (sl : Option (Nat × Nat)) (T : Trace) (q : Nat → Nat) (d : Nat), TRing P σ T gs (w.at d) q → gs[σ.h]? = some g → Ev P Fin (crowd gs (w.at d) sl) T

/-- What is asked of a step of the holder's. -/
structure Okay (σ : Cfg) (w w' : World) (es : Array Event) : Prop where
  chan : ∀ i s, σ.seat i = some s → w'.heap[s.c]? = w.heap[s.c]?
  cell : ∀ i s, σ.seat i = some s → ∀ p ∈ s.still, w'.cell? p.1 = w.cell? p.1
  wr : ∀ e ∈ es, ∀ b, (MemAct.ofEvent e).touch? = some b → b.write = true → ∀ i s, σ.seat i = some s → ∀ p ∈ s.still, b.loc ≠ .cell p.1
  io : w'.os = w.os ∧ w'.output = w.output

/-- What the seats know of the world. -/
def Cfg.Sound (σ : Cfg) (w : World) : Prop := ∀ i s, σ.seat i = some s → s.K w ∧ ∃ k, w.heap[s.c]? = some (.chan 0 #[] false k k false)
theorem TRing.sound {P : Program} {σ : Cfg} {T : Trace} {gs : Array Goroutine} {w : World} {q : Nat → Nat} (R : TRing P σ T gs w q) : σ.Sound w := fun i s e => ⟨R.keep i s e, R.chans i s e⟩

section
variable {P : Program} {Fin : Machine → Trace → Prop} {σ : Cfg} {g g₂ : Goroutine} {w : World}

theorem X_at (d : Nat) : X P Fin σ g (w.at d) ↔ X P Fin σ g w := Iff.rfl

theorem TRing.own {T : Trace} {gs : Array Goroutine} {q : Nat → Nat} (R : TRing P σ T gs w q) {a a' : Goroutine} {w' : World} {es : Array Event} (ha : gs[σ.h]? = some a) (hd : Okay σ w w' es) :
    TRing P { σ with dl := deafBehind σ.dl es } (T ++ MemOp.ofEvents σ.h a.frame.fn a.frame.place es) ((gs.map (woken P a a' w')).setIfInBounds σ.h a') w' q ∧ ((gs.map (woken P a a' w')).setIfInBounds σ.h a')[σ.h]? = some a' := by
  have hlt : σ.h < gs.size := (Array.getElem?_eq_some_iff.1 ha).1
  have hch : ∀ i s, σ.seat i = some s → ∃ k, w'.heap[s.c]? = some (.chan 0 #[] false k k false) := fun i s e => by obtain ⟨k, hk⟩ := R.chans i s e; exact ⟨k, by rw [hd.chan i s e]; exact hk⟩
  have R' : TRing P σ T gs w' q := ⟨R.size, R.idle, hch, fun i s e p hp => by rw [hd.cell i s e p hp]; exact R.keep i s e p hp, R.inj, R.above, R.hold, R.inn, R.past, ⟨hd.io.1.trans R.io.1, hd.io.2.trans R.io.2⟩⟩
  refine ⟨⟨by simpa using R.size, fun x y hx hy => ?_, hch, R'.keep, R.inj, fun j hj => ?_, R.hold, R.inn, ?_, R'.io⟩, Array.getElem?_setIfInBounds_self_of_lt (by simpa using hlt)⟩
  · rw [Array.getElem?_setIfInBounds_ne (fun e => hx e.symm), Array.getElem?_map] at hy
    obtain ⟨y₀, hy₀, rfl⟩ := Option.map_eq_some_iff.1 hy
    rw [woken_of_again (R'.fixed hx hy₀)]
    have hi := R.idle x y₀ hx hy₀
    show IdleX P _ x (q x) y₀ (σ.seat x)
    cases es' : σ.seat x with
    | none => rw [es'] at hi; exact ⟨hi.1, by rw [Deaf_other T (fun z => hx z.symm) _ ofEv_g]; exact hi.2⟩
    | some s => rw [es'] at hi; exact hi
  · rw [Deaf_other T (g' := σ.h) (by have := R.size; simp only at hj; omega) _ ofEv_g]
    exact R.above j hj
  · refine R.past.appH (St_none R.hold) ofEv_g (fun op hop b hb hw' g' S hS hl => ?_) (by rw [Deaf_own, R.past.deaf])
    obtain ⟨e, he, rfl⟩ := Go.Conc.mem_ofEvents hop
    obtain ⟨s, hs, rfl⟩ := St_elim hS
    obtain ⟨p, hp, hlp⟩ := hl
    exact hd.wr e he b hb hw' g' s hs p hp hlp

/-- A STEP OF THE HOLDER's. -/
theorem X_step (hrun : g.status = .running) (h : ∀ d, σ.Sound (w.at d) → (stepG P (σ.h == 0) g (w.at d)).goes fun g' w' es => Okay σ (w.at d) w' es ∧ X P Fin { σ with dl := deafBehind σ.dl es } g' w') : X P Fin σ g w := by
  suffices H : ∀ (μ : Nat) (gs : Array Goroutine) (sl : Option (Nat × Nat)) (T : Trace) (q : Nat → Nat) (d : Nat), sumTo σ.n q = μ → TRing P σ T gs (w.at d) q → gs[σ.h]? = some g → Ev P Fin (crowd gs (w.at d) sl) T from
    fun gs sl T q d R hg => H _ gs sl T q d rfl R hg
  intro μ
  induction μ using Nat.strongRecOn with
  | _ μ ih =>
    intro gs sl T q d hμ R hg
    obtain ⟨i, gi, d', sl', hi, hgi, hst⟩ := crowd_pick (P := P) (w := w.at d) (sl := sl) (R.awake hg (.inl hrun)) ⟨σ.h, g, hg, hrun⟩
    rw [at_at'] at hst
    have Rd := R.at d'
    rw [at_at'] at Rd
    by_cases e : i = σ.h
    · subst e
      obtain rfl : gi = g := by rw [hg] at hi; exact (Option.some.inj hi).symm
      have hs := h d' Rd.sound
      cases hgo : stepG P (σ.h == 0) gi (w.at d') with
      | go a' w' es =>
        rw [hgo, goes_go] at hs
        obtain ⟨hok, hX⟩ := hs
        obtain ⟨R', ha'⟩ := Rd.own (a' := a') hg hok
        refine Ev.step (hst.trans (runT_crowd_go (sl := sl') hg hgo)) ?_
        have hw' : w' = w'.at w'.drawn := rfl
        rw [hw'] at R' ⊢
        exact hX _ _ _ _ _ R' ha'
      | _ => rw [hgo] at hs; exact hs.elim
    · obtain ⟨gs', ops, q', hrt, hh', _, _, R', hlt⟩ := Rd.by_step (sl := sl') hi e hgi hg (again_of_running (.inl hrun) _) (fun s _ _ => offersAt_of_not_blocked (by rw [hrun]; simp) _ _)
      exact Ev.step (hst.trans hrt) (ih _ (by rw [← hμ]; exact hlt) gs' sl' _ q' d' rfl R' hh')
end

end Go.TX
