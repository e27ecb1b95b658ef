/- What is held of a trace while one goroutine holds the token: no data race; the holder knows every touch of memory but reads of places that stand still for whoever is on its way to its seat. -/
import Derived.Conc.Token
set_option linter.unusedVariables false
namespace Go.TX
open Go.Conc
open Go.ConcN (upd upd_ne upd_same)

/-- St g = some S: goroutine g is loose: it has given the token away and may read places in S. -/
structure PastX (St : Nat → Option (Loc → Prop)) (h dl : Nat) (t : Trace) : Prop where
  clean : ∀ said, ¬ Race said t
  known : ∀ i a, touchAt t i = some a → a.loc.isMemory = true → Knows t h i ∨ (a.write = false ∧ ∃ g S, t.g? i = some g ∧ St g = some S ∧ S a.loc)
  wrote : ∀ g S, St g = some S → ∀ i a, touchAt t i = some a → a.write = true → S a.loc → Knows t g i
  hears : ∀ g S, St g = some S → Deaf t g = 0
  deaf : Deaf t h = dl

section
variable {St : Nat → Option (Loc → Prop)} {h dl : Nat} {t u : Trace}

theorem pastX_nil : PastX (fun _ => none) 0 0 #[] :=
  ⟨fun said => by rintro ⟨i, j, _, ⟨a, b, ha, _⟩, _⟩; simp [Trace.act?] at ha, fun i a ha => (by simp [touchAt, Trace.act?] at ha), fun _ _ e => (by cases e), fun _ _ e => (by cases e), rfl⟩

theorem PastX.old_known {h' : Nat} (H : PastX St h dl t) (hK : ∀ i, Knows t h i → Knows (t ++ u) h' i) {i : Nat} {a : Touch} {x : MemOp} (hx' : t[i]? = some x) (hxa : x.act.touch? = some a) (hm : a.loc.isMemory = true) :
    Knows (t ++ u) h' i ∨ (a.write = false ∧ ∃ g S, (t ++ u).g? i = some g ∧ St g = some S ∧ S a.loc) :=
  (H.known i a (by rw [touchAt_of hx']; exact hxa) hm).imp (hK i) fun ⟨p, g, S, hg, hS, hl⟩ => ⟨p, g, S, by rw [g?_old (lt_size_of_getElem? hx')]; exact hg, hS, hl⟩

/-- The holder's own operations: no write of a place that stands still for somebody. -/
theorem PastX.appH {dl' : Nat} (H : PastX St h dl t) (hh : St h = none) (hu : ∀ op ∈ u, op.g = h)
    (hs : ∀ op ∈ u, ∀ b, op.act.touch? = some b → b.write = true → ∀ g S, St g = some S → ¬ S b.loc) (hd : Deaf (t ++ u) h = dl') : PastX St h dl' (t ++ u) := by
  refine ⟨fun said => noRace_append (H.clean said) hu fun i a ha op hop b hb hc => ?_, fun i a ha hm => ?_, fun g S hg i a ha hw hS => ?_, fun g S hg => ?_, hd⟩
  · rcases H.known i a ha hc.2.1 with hk | ⟨hw, g, S, _, hS, hl⟩
    · exact hk
    · rcases hc.2.2.1 with x | x
      · rw [hw] at x; cases x
      · exact absurd (hc.1 ▸ hl) (hs op hop b hb x g S hS)
  · obtain ⟨x, hx, hxa⟩ := touch_of ha
    rcases getElem?_append_cases hx with ⟨_, hx'⟩ | ⟨_, hxu⟩
    · exact H.old_known (fun i => Knows.app u) hx' hxa hm
    · have := knows_own hx
      rw [hu x hxu] at this
      exact .inl this
  · obtain ⟨x, hx, hxa⟩ := touch_of ha
    rcases getElem?_append_cases hx with ⟨_, hx'⟩ | ⟨_, hxu⟩
    · exact (H.wrote g S hg i a (by rw [touchAt_of hx']; exact hxa) hw hS).app u
    · exact absurd hS (hs x hxu a hxa hw g S hg)
  · have : g ≠ h := fun e => by subst e; rw [hh] at hg; cases hg
    exact (Deaf_other t (fun z => this z.symm) u hu).trans (H.hears g S hg)

/-- Somebody's operations that touch nothing; it is no loose one, and not the holder. -/
theorem PastX.appMute {g : Nat} (H : PastX St h dl t) (hgh : g ≠ h) (hg : St g = none) (hu : ∀ op ∈ u, op.g = g) (hn : ∀ op ∈ u, op.act.touch? = none) : PastX St h dl (t ++ u) := by
  refine ⟨fun said => noRace_appendMute (H.clean said) hn, fun i a ha hm => ?_, fun g' S hg' i a ha hw hS => ?_, fun g' S hg' => ?_, (Deaf_other t hgh u hu).trans H.deaf⟩
  · obtain ⟨x, hx, hxa⟩ := touch_of ha
    rcases getElem?_append_cases hx with ⟨_, hx'⟩ | ⟨_, hxu⟩
    · exact H.old_known (fun i => Knows.app u) hx' hxa hm
    · rw [hn x hxu] at hxa; cases hxa
  · obtain ⟨x, hx, hxa⟩ := touch_of ha
    rcases getElem?_append_cases hx with ⟨_, hx'⟩ | ⟨_, hxu⟩
    · exact (H.wrote g' S hg' i a (by rw [touchAt_of hx']; exact hxa) hw hS).app u
    · rw [hn x hxu] at hxa; cases hxa
  · have : g' ≠ g := fun e => by subst e; rw [hg] at hg'; cases hg'
    exact (Deaf_other t (fun z => this z.symm) u hu).trans (H.hears g' S hg')

/-- A loose goroutine reads places that stand still for it. -/
theorem PastX.appRead {g : Nat} {S : Loc → Prop} (H : PastX St h dl t) (hgh : g ≠ h) (hg : St g = some S) (hu : ∀ op ∈ u, op.g = g) (hr : ∀ op ∈ u, ∀ b, op.act.touch? = some b → b.write = false ∧ S b.loc) (hd : Deaf (t ++ u) g = Deaf t g) :
    PastX St h dl (t ++ u) := by
  refine ⟨fun said => noRace_append (H.clean said) hu fun i a ha op hop b hb hc => ?_, fun i a ha hm => ?_, fun g' S' hg' i a ha hw hS => ?_, fun g' S' hg' => ?_, (Deaf_other t hgh u hu).trans H.deaf⟩
  · obtain ⟨hb0, hbS⟩ := hr op hop b hb
    rcases hc.2.2.1 with x | x
    · exact H.wrote g S hg i a ha x (hc.1 ▸ hbS)
    · rw [hb0] at x; cases x
  · obtain ⟨x, hx, hxa⟩ := touch_of ha
    rcases getElem?_append_cases hx with ⟨_, hx'⟩ | ⟨_, hxu⟩
    · exact H.old_known (fun i => Knows.app u) hx' hxa hm
    · exact .inr ⟨(hr x hxu a hxa).1, g, S, by rw [g?_of hx, hu x hxu], hg, (hr x hxu a hxa).2⟩
  · obtain ⟨x, hx, hxa⟩ := touch_of ha
    rcases getElem?_append_cases hx with ⟨_, hx'⟩ | ⟨_, hxu⟩
    · exact (H.wrote g' S' hg' i a (by rw [touchAt_of hx']; exact hxa) hw hS).app u
    · rw [(hr x hxu a hxa).1] at hw; cases hw
  · by_cases e : g' = g
    · subst e; exact hd.trans (H.hears g' S' hg')
    · exact (Deaf_other t (fun z => e z.symm) u hu).trans (H.hears g' S' hg')

/-- A meeting: goroutine h gives the token to j; behind it h is loose over 'oS' (or not at all). -/
theorem PastX.give {j : Nat} {oS : Option (Loc → Prop)} {Sj : Loc → Prop} (H : PastX St h 0 t) (hh : St h = none) (hjh : j ≠ h) (hj : St j = some Sj) (hmem : ∀ S, oS = some S → ∀ l, S l → l.isMemory = true)
    (fh : FuncId) (ph : String) (fj : FuncId) (pj : String) {c : Nat} (k cap : Nat) :
    PastX (upd (upd St j none) h oS) j 0 (t ++ met h j fh ph fj pj c k cap) := by
  have hn := met_mute h j fh ph fj pj c k cap
  have hq := met_quiet h j fh ph fj pj c k cap
  have e0 : (t ++ met h j fh ph fj pj c k cap)[t.size]? = some { g := h, fn := fh, pos := ph, act := .send c k } := by simp [met]
  have e3 : (t ++ met h j fh ph fj pj c k cap)[t.size + 3]? = some { g := j, fn := fj, pos := pj, act := .recvDone c k } := by simp [met]
  have edge : HappensBefore (t ++ met h j fh ph fj pj c k cap) t.size (t.size + 3) :=
    Relation.TransGen.single (.inr ⟨.handOver (act?_of e0) (act?_of e3), ⟨h, g?_of e0, by rw [deaf_old (Nat.le_refl _)]; exact H.deaf⟩, ⟨j, g?_of e3, by rw [deaf_quiet (hq j) 3 (by simp [met])]; exact H.hears j Sj hj⟩⟩)
  have hup : ∀ x, x ≠ h → x ≠ j → upd (upd St j none) h oS x = St x := fun x h1 h2 => by rw [upd_ne _ _ h1, upd_ne _ _ h2]
  have huj : upd (upd St j none) h oS j = none := by rw [upd_ne _ _ hjh, upd_same]
  have huh : upd (upd St j none) h oS h = oS := upd_same _ _ _
  refine ⟨fun said => noRace_appendMute (H.clean said) hn, fun i a ha hm => ?_, fun g S hg i a ha hw hS => ?_, fun g S hg => ?_, (Deaf_quiet (hq j)).trans (H.hears j Sj hj)⟩
  · obtain ⟨x, hx, hxa⟩ := touch_of ha
    rcases getElem?_append_cases hx with ⟨hi, hx'⟩ | ⟨_, hxu⟩
    · rcases H.known i a (by rw [touchAt_of hx']; exact hxa) hm with hk | ⟨p, g, S, hg, hS, hl⟩
      · exact .inl ⟨t.size + 3, _, e3, rfl, .inr ((hk.hb_new (Nat.le_refl _) e0 rfl).trans edge)⟩
      · by_cases e : g = j
        · subst e
          have := knows_own hx
          rw [show x.g = g from by have := g?_of hx'; rw [hg] at this; exact (Option.some.inj this).symm] at this
          exact .inl this
        · have hgh : g ≠ h := fun z => by subst z; rw [hh] at hS; cases hS
          exact .inr ⟨p, g, S, by rw [g?_old hi]; exact hg, by rw [hup g hgh e]; exact hS, hl⟩
    · rw [hn x hxu] at hxa; cases hxa
  · obtain ⟨x, hx, hxa⟩ := touch_of ha
    rcases getElem?_append_cases hx with ⟨_, hx'⟩ | ⟨_, hxu⟩
    · by_cases e : g = h
      · subst e
        rw [huh] at hg
        rcases H.known i a (by rw [touchAt_of hx']; exact hxa) (hmem S hg _ hS) with hk | ⟨p, _⟩
        · exact hk.app _
        · rw [p] at hw; cases hw
      · by_cases e' : g = j
        · subst e'; rw [huj] at hg; cases hg
        · rw [hup g e e'] at hg
          exact (H.wrote g S hg i a (by rw [touchAt_of hx']; exact hxa) hw hS).app _
    · rw [hn x hxu] at hxa; cases hxa
  · rw [Deaf_quiet (hq g)]
    by_cases e : g = h
    · subst e; exact H.deaf
    · by_cases e' : g = j
      · subst e'; rw [huj] at hg; cases hg
      · rw [hup g e e'] at hg; exact H.hears g S hg

/-- A go statement of the holder's: the child is loose over S. -/
theorem PastX.hire {c : Nat} {S : Loc → Prop} (H : PastX St h 0 t) (hh : St h = none) (hch : c ≠ h) (hc1 : St c = none) (hc0 : Deaf t c = 0) (hmem : ∀ l, S l → l.isMemory = true) (fh : FuncId) (ph : String) (fc : FuncId) :
    PastX (upd St c (some S)) h 0 (t ++ #[{ g := h, fn := fh, pos := ph, act := .go c }, { g := c, fn := fc, pos := ph, act := .start }]) := by
  generalize hu : (#[{ g := h, fn := fh, pos := ph, act := .go c }, { g := c, fn := fc, pos := ph, act := .start }] : Trace) = u
  have hn : ∀ op ∈ u, op.act.touch? = none := by
    intro op hop
    subst hu
    simp only [List.mem_toArray, List.mem_cons, List.not_mem_nil, or_false] at hop
    rcases hop with rfl | rfl <;> rfl
  have hq : ∀ g, ∀ op ∈ u, ∀ d, deafStep g d op = d := by
    intro g op hop d
    subst hu
    simp only [List.mem_toArray, List.mem_cons, List.not_mem_nil, or_false] at hop
    rcases hop with rfl | rfl <;> rfl
  have e0 : (t ++ u)[t.size]? = some { g := h, fn := fh, pos := ph, act := .go c } := by subst hu; simp
  have e1 : (t ++ u)[t.size + 1]? = some { g := c, fn := fc, pos := ph, act := .start } := by subst hu; simp
  have edge : HappensBefore (t ++ u) t.size (t.size + 1) :=
    Relation.TransGen.single (.inr ⟨.spawn (act?_of e0) (act?_of e1) (g?_of e1), ⟨h, g?_of e0, by rw [deaf_old (Nat.le_refl _)]; exact H.deaf⟩, ⟨c, g?_of e1, by rw [deaf_quiet (hq c) 1 (by subst hu; simp)]; exact hc0⟩⟩)
  have hkn : ∀ i, Knows t h i → Knows (t ++ u) c i := fun i hk => ⟨t.size + 1, _, e1, rfl, .inr ((hk.hb_new (Nat.le_refl _) e0 rfl).trans edge)⟩
  refine ⟨fun said => noRace_appendMute (H.clean said) hn, fun i a ha hm => ?_, fun g S' hg i a ha hw hS => ?_, fun g S' hg => ?_, (Deaf_quiet (hq h)).trans H.deaf⟩
  · obtain ⟨x, hx, hxa⟩ := touch_of ha
    rcases getElem?_append_cases hx with ⟨hi, hx'⟩ | ⟨_, hxu⟩
    · rcases H.known i a (by rw [touchAt_of hx']; exact hxa) hm with hk | ⟨p, g, S', hg, hS, hl⟩
      · exact .inl (hk.app u)
      · by_cases e : g = c
        · subst e; rw [hc1] at hS; cases hS
        · exact .inr ⟨p, g, S', by rw [g?_old hi]; exact hg, by rw [upd_ne _ _ e]; exact hS, hl⟩
    · rw [hn x hxu] at hxa; cases hxa
  · obtain ⟨x, hx, hxa⟩ := touch_of ha
    rcases getElem?_append_cases hx with ⟨_, hx'⟩ | ⟨_, hxu⟩
    · by_cases e : g = c
      · subst e
        rw [upd_same] at hg
        obtain rfl := Option.some.inj hg
        rcases H.known i a (by rw [touchAt_of hx']; exact hxa) (hmem _ hS) with hk | ⟨p, _⟩
        · exact hkn i hk
        · rw [p] at hw; cases hw
      · rw [upd_ne _ _ e] at hg
        exact (H.wrote g S' hg i a (by rw [touchAt_of hx']; exact hxa) hw hS).app u
    · rw [hn x hxu] at hxa; cases hxa
  · rw [Deaf_quiet (hq g)]
    by_cases e : g = c
    · subst e; exact hc0
    · rw [upd_ne _ _ e] at hg; exact H.hears g S' hg

/-- At the end nobody is loose and goroutine 0 holds: all that others did is known to it. -/
theorem PastX.over (H : PastX (fun _ => none) 0 dl t) : t.HandedOver := by
  intro i g hg hne ⟨x, hx, hm, _⟩
  rcases H.known i x hx hm with hk | ⟨_, _, _, _, e, _⟩
  · obtain ⟨q, z, hq, hz, hb⟩ := hk
    rcases hb with rfl | hb
    · rw [g?_of hq, hz] at hg
      exact absurd (Option.some.inj hg).symm hne
    · exact ⟨q, by rw [g?_of hq, hz], hb⟩
  · cases e
end
end Go.TX
