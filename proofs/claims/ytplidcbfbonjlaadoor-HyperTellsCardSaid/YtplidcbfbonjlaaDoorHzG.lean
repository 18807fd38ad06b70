/-
  Reducing families of sets (by ears): whatever the order, what is left is the same. Plain: no program in sight.
-/
import Derived.Test.YtplidcbfbonjlaaDoorHySet
namespace Go.Proofs.YtplidcbfbonjlaaDoor
set_option linter.unusedVariables false
set_option linter.unusedSimpArgs false

/-- All that the one has the other one has. -/
def Sub (a b : Nat) : Prop := ∀ v, a.testBit v = true → b.testBit v = true
theorem Sub.refl (a : Nat) : Sub a a := fun _ h => h
theorem Sub.trans {a b c : Nat} (h : Sub a b) (k : Sub b c) : Sub a c := fun v hv => k v (h v hv)
theorem Sub.anti {a b : Nat} (h : Sub a b) (k : Sub b a) : a = b := Nat.eq_of_testBit_eq fun v => by
  cases e : a.testBit v with
  | true => exact (h v e).symm
  | false =>
    cases e' : b.testBit v with
    | false => rfl
    | true => rw [k v e'] at e; cases e
/-- One of the sets has it. -/
def Alive (cur : List Nat) (v : Nat) : Prop := ∃ s ∈ cur, s.testBit v = true
/-- The sets that are left stand for the edges. -/
structure Cof (E cur : List Nat) : Prop where
  low : ∀ c ∈ cur, ∃ e ∈ E, Sub c e
  up : ∀ e ∈ E, (∀ v, e.testBit v = true → ¬ Alive cur v) ∨ ∃ c ∈ cur, ∀ v, e.testBit v = true → Alive cur v → c.testBit v = true
/-- Among edges seen in V it is greatest. -/
def MaxAt (E : List Nat) (V : Nat → Prop) (e : Nat) : Prop := ∀ g ∈ E, (∀ x, V x → e.testBit x = true → g.testBit x = true) → ∀ x, V x → g.testBit x = true → e.testBit x = true
/-- Each vertex of V is in two greatest edges that V tells apart. -/
def NoFree (E : List Nat) (V : Nat → Prop) : Prop := ∀ v, V v → ∃ e ∈ E, ∃ f ∈ E, e.testBit v = true ∧ f.testBit v = true ∧ MaxAt E V e ∧ MaxAt E V f ∧ ∃ x, V x ∧ e.testBit x = true ∧ f.testBit x = false
/-- No such V is lost. -/
def Keep (E cur : List Nat) : Prop := ∀ V, NoFree E V → ∀ v, V v → Alive cur v
theorem Cof.self (E : List Nat) : Cof E E := ⟨fun c hc => ⟨c, hc, Sub.refl c⟩, fun e he => .inr ⟨e, he, fun v hv _ => hv⟩⟩
theorem Keep.self (E : List Nat) : Keep E E := fun V h v hv => by
  obtain ⟨e, he, f, hf, h1, h2, -⟩ := h v hv
  exact ⟨e, he, h1⟩
/-- A family with some sets more, within others. -/
theorem Cof.more {E cur : List Nat} (h1 : ∀ e ∈ E, e ∈ cur) (h2 : ∀ c ∈ cur, ∃ e ∈ E, Sub c e) : Cof E cur := ⟨h2, fun e he => .inr ⟨e, h1 e he, fun v hv _ => hv⟩⟩
theorem Keep.more {E cur : List Nat} (h1 : ∀ e ∈ E, e ∈ cur) : Keep E cur := fun V h v hv => by
  obtain ⟨e, he, f, hf, h3, h4, -⟩ := h v hv
  exact ⟨e, h1 e he, h3⟩
/-- One set loses what no other one has. -/
structure Loses (A : List Nat) (s s' : Nat) (B : List Nat) : Prop where
  sub : Sub s' s
  lone : ∀ v, s.testBit v = true → s'.testBit v = false → (∀ t ∈ A, t.testBit v = false) ∧ ∀ t ∈ B, t.testBit v = false
theorem mem_mid {A B : List Nat} {s x : Nat} : x ∈ A ++ s :: B ↔ x = s ∨ x ∈ A ∨ x ∈ B := by
  simp only [List.mem_append, List.mem_cons]
  constructor
  · rintro (h | h | h)
    · exact .inr (.inl h)
    · exact .inl h
    · exact .inr (.inr h)
  · rintro (h | h | h)
    · exact .inr (.inl h)
    · exact .inl h
    · exact .inr (.inr h)
theorem Loses.alive {A B : List Nat} {s s' : Nat} (h : Loses A s s' B) {v : Nat} : Alive (A ++ s' :: B) v ↔ Alive (A ++ s :: B) v ∧ ¬ (s.testBit v = true ∧ s'.testBit v = false) := by
  constructor
  · rintro ⟨t, ht, hv⟩
    rcases mem_mid.1 ht with rfl | ht
    · exact ⟨⟨s, mem_mid.2 (.inl rfl), h.sub v hv⟩, fun k => by rw [hv] at k; cases k.2⟩
    · refine ⟨⟨t, mem_mid.2 (.inr ht), hv⟩, fun k => ?_⟩
      obtain ⟨k1, k2⟩ := h.lone v k.1 k.2
      rcases ht with ht | ht
      · rw [k1 t ht] at hv; cases hv
      · rw [k2 t ht] at hv; cases hv
  · rintro ⟨⟨t, ht, hv⟩, hn⟩
    rcases mem_mid.1 ht with rfl | ht
    · refine ⟨s', mem_mid.2 (.inl rfl), ?_⟩
      cases e : s'.testBit v with
      | true => rfl
      | false => exact absurd ⟨hv, e⟩ hn
    · exact ⟨t, mem_mid.2 (.inr ht), hv⟩
theorem Loses.cof {E A B : List Nat} {s s' : Nat} (h : Loses A s s' B) (hc : Cof E (A ++ s :: B)) : Cof E (A ++ s' :: B) := by
  refine ⟨fun c hm => ?_, fun e he => ?_⟩
  · rcases mem_mid.1 hm with rfl | hm
    · obtain ⟨e, he, hs⟩ := hc.low s (mem_mid.2 (.inl rfl))
      exact ⟨e, he, h.sub.trans hs⟩
    · exact hc.low c (mem_mid.2 (.inr hm))
  · rcases hc.up e he with h1 | ⟨c, hm, h1⟩
    · exact .inl fun v hv ha => h1 v hv (h.alive.1 ha).1
    · rcases mem_mid.1 hm with rfl | hm
      · refine .inr ⟨s', mem_mid.2 (.inl rfl), fun v hv ha => ?_⟩
        obtain ⟨a1, a2⟩ := h.alive.1 ha
        have := h1 v hv a1
        cases e' : s'.testBit v with
        | true => rfl
        | false => exact absurd ⟨this, e'⟩ a2
      · exact .inr ⟨c, mem_mid.2 (.inr hm), fun v hv ha => h1 v hv (h.alive.1 ha).1⟩
theorem Loses.keep {E A B : List Nat} {s s' : Nat} (h : Loses A s s' B) (hc : Cof E (A ++ s :: B)) (hk : Keep E (A ++ s :: B)) : Keep E (A ++ s' :: B) := fun V hV v hv => by
  refine h.alive.2 ⟨hk V hV v hv, fun hn => ?_⟩
  obtain ⟨k1, k2⟩ := h.lone v hn.1 hn.2
  obtain ⟨e, he, f, hf, ev, fv, me, mf, x, hx, ex, fx⟩ := hV v hv
  have hal : ∀ y, V y → Alive (A ++ s :: B) y := hk V hV
  have only : ∀ g ∈ E, g.testBit v = true → ∀ y, V y → g.testBit y = true → s.testBit y = true := fun g hg gv y hy gy => by
    rcases hc.up g hg with h1 | ⟨c, hm, h1⟩
    · exact absurd (hal v hv) (h1 v gv)
    · have hcv := h1 v gv (hal v hv)
      rcases mem_mid.1 hm with rfl | hm | hm
      · exact h1 y gy (hal y hy)
      · rw [k1 c hm] at hcv; cases hcv
      · rw [k2 c hm] at hcv; cases hcv
  obtain ⟨g, hg, hs⟩ := hc.low s (mem_mid.2 (.inl rfl))
  have h1 : f.testBit x = true := mf g hg (fun y hy fy => hs y (only f hf fv y hy fy)) x hx (hs x (only e he ev x hx ex))
  rw [fx] at h1
  cases h1
/-- One set goes, that has nothing, or nothing but what another one has. -/
def Goes (A : List Nat) (s : Nat) (B : List Nat) : Prop := s = 0 ∨ ∃ t, (t ∈ A ∨ t ∈ B) ∧ Sub s t
theorem Goes.alive {A B : List Nat} {s : Nat} (h : Goes A s B) {v : Nat} : Alive (A ++ B) v ↔ Alive (A ++ s :: B) v := by
  constructor
  · rintro ⟨t, ht, hv⟩
    exact ⟨t, mem_mid.2 (.inr (List.mem_append.1 ht)), hv⟩
  · rintro ⟨t, ht, hv⟩
    rcases mem_mid.1 ht with rfl | ht
    · rcases h with rfl | ⟨u, hu, hs⟩
      · rw [Nat.zero_testBit] at hv; cases hv
      · exact ⟨u, List.mem_append.2 hu, hs v hv⟩
    · exact ⟨t, List.mem_append.2 ht, hv⟩
theorem Goes.cof {E A B : List Nat} {s : Nat} (h : Goes A s B) (hc : Cof E (A ++ s :: B)) : Cof E (A ++ B) := by
  refine ⟨fun c hm => hc.low c (mem_mid.2 (.inr (List.mem_append.1 hm))), fun e he => ?_⟩
  rcases hc.up e he with h1 | ⟨c, hm, h1⟩
  · exact .inl fun v hv ha => h1 v hv (h.alive.1 ha)
  · rcases mem_mid.1 hm with rfl | hm
    · rcases h with rfl | ⟨u, hu, hs⟩
      · refine .inl fun v hv ha => ?_
        have := h1 v hv ((Goes.alive (.inl rfl)).1 ha)
        rw [Nat.zero_testBit] at this
        cases this
      · exact .inr ⟨u, List.mem_append.2 hu, fun v hv ha => hs v (h1 v hv ((Goes.alive (.inr ⟨u, hu, hs⟩)).1 ha))⟩
    · exact .inr ⟨c, List.mem_append.2 hm, fun v hv ha => h1 v hv (h.alive.1 ha)⟩
theorem Goes.keep {E A B : List Nat} {s : Nat} (h : Goes A s B) (hk : Keep E (A ++ s :: B)) : Keep E (A ++ B) := fun V hV v hv => h.alive.2 (hk V hV v hv)
/-- Nothing can be done. -/
structure Irr (cur : List Nat) : Prop where
  apart : cur.Pairwise fun a b => ¬ Sub a b ∧ ¬ Sub b a
  some : ∀ s ∈ cur, ∃ v, s.testBit v = true
  two : ∀ s ∈ cur, ∀ v, s.testBit v = true → ∃ t ∈ cur, t ≠ s ∧ t.testBit v = true
theorem apart_eq {cur : List Nat} (h : cur.Pairwise fun a b => ¬ Sub a b ∧ ¬ Sub b a) : ∀ a ∈ cur, ∀ b ∈ cur, Sub a b → a = b := by
  induction cur with
  | nil => intro a ha; cases ha
  | cons c cur ih =>
    obtain ⟨h1, h2⟩ := List.pairwise_cons.1 h
    intro a ha b hb hs
    rcases List.mem_cons.1 ha with ha1 | ha1 <;> rcases List.mem_cons.1 hb with hb1 | hb1
    · rw [ha1, hb1]
    · subst ha1; exact absurd hs (h1 b hb1).1
    · subst hb1; exact absurd hs (h1 a ha1).2
    · exact ih h2 a ha1 b hb1 hs
theorem sub_or (s t : Nat) : Sub s t ∨ ∃ x, s.testBit x = true ∧ t.testBit x = false := by
  by_cases h : Sub s t
  · exact .inl h
  · refine .inr ?_
    apply Classical.byContradiction
    intro hn
    refine h fun v hv => ?_
    cases e : t.testBit v with
    | true => rfl
    | false => exact absurd ⟨v, hv, e⟩ hn
/-- Behind the last step: the vertices that are left are all in two greatest edges. -/
theorem Irr.noFree {E cur : List Nat} (hc : Cof E cur) (hi : Irr cur) : NoFree E (Alive cur) := fun v hv => by
  obtain ⟨s, hs, sv⟩ := hv
  obtain ⟨t, ht, hne, tv⟩ := hi.two s hs v sv
  have top : ∀ c ∈ cur, ∀ e ∈ E, Sub c e → MaxAt E (Alive cur) e ∧ ∀ x, Alive cur x → e.testBit x = true → c.testBit x = true := fun c hm e he hce => by
    have key : ∀ g ∈ E, (∀ x, Alive cur x → c.testBit x = true → g.testBit x = true) → ∀ x, Alive cur x → g.testBit x = true → c.testBit x = true := fun g hg hcg x hx gx => by
      obtain ⟨y, hy⟩ := hi.some c hm
      have hya : Alive cur y := ⟨c, hm, hy⟩
      rcases hc.up g hg with h1 | ⟨d, hd, h1⟩
      · exact absurd hya (h1 y (hcg y hya hy))
      · have : c = d := apart_eq hi.apart c hm d hd fun z hz => h1 z (hcg z ⟨c, hm, hz⟩ hz) ⟨c, hm, hz⟩
        rw [this]
        exact h1 x gx hx
    refine ⟨fun g hg heg x hx gx => hce x (key g hg (fun y hy cy => heg y hy (hce y cy)) x hx gx), key e he fun x _ cx => hce x cx⟩
  obtain ⟨e, he, hse⟩ := hc.low s hs
  obtain ⟨f, hf, htf⟩ := hc.low t ht
  obtain ⟨m1, l1⟩ := top s hs e he hse
  obtain ⟨m2, l2⟩ := top t ht f hf htf
  refine ⟨e, he, f, hf, hse v sv, htf v tv, m1, m2, ?_⟩
  rcases sub_or s t with h | ⟨x, sx, tx⟩
  · exact absurd (apart_eq hi.apart s hs t ht h).symm hne
  · have hx : Alive cur x := ⟨s, hs, sx⟩
    refine ⟨x, hx, hse x sx, ?_⟩
    cases q : f.testBit x with
    | false => rfl
    | true => rw [l2 x hx q] at tx; cases tx
/-- All that is known of what is left. -/
structure LeftOf (E cur : List Nat) : Prop where
  cof : Cof E cur
  keep : Keep E cur
  irr : Irr cur
/-- What is left is the same. -/
theorem LeftOf.sub {E c1 c2 : List Nat} (h1 : LeftOf E c1) (h2 : LeftOf E c2) : ∀ s ∈ c1, s ∈ c2 := fun s hs => by
  have a12 : ∀ v, Alive c1 v → Alive c2 v := h2.keep _ (Irr.noFree h1.cof h1.irr)
  have a21 : ∀ v, Alive c2 v → Alive c1 v := h1.keep _ (Irr.noFree h2.cof h2.irr)
  have find : ∀ {d1 d2 : List Nat}, LeftOf E d1 → LeftOf E d2 → (∀ v, Alive d1 v → Alive d2 v) → ∀ s ∈ d1, ∃ t ∈ d2, Sub s t := fun {d1 d2} k1 k2 ha s hs => by
    obtain ⟨e, he, hse⟩ := k1.cof.low s hs
    obtain ⟨y, hy⟩ := k1.irr.some s hs
    rcases k2.cof.up e he with h | ⟨t, ht, h⟩
    · exact absurd (ha y ⟨s, hs, hy⟩) (h y (hse y hy))
    · exact ⟨t, ht, fun v hv => h v (hse v hv) (ha v ⟨s, hs, hv⟩)⟩
  obtain ⟨t, ht, hst⟩ := find h1 h2 a12 s hs
  obtain ⟨u, hu, htu⟩ := find h2 h1 a21 t ht
  have : s = u := apart_eq h1.irr.apart s hs u hu (hst.trans htu)
  subst this
  rw [hst.anti htu]
  exact ht
/-- With an edge of all vertices nothing is left. -/
theorem LeftOf.whole {E cur : List Nat} (h : LeftOf E cur) {a : Nat} (ha : a ∈ E) (hall : ∀ e ∈ E, Sub e a) : cur = [] := by
  have hn : ∀ v, ¬ Alive cur v := fun v hv => by
    obtain ⟨e, he, f, hf, ev, fv, me, mf, x, hx, ex, fx⟩ := Irr.noFree h.cof h.irr v hv
    have := mf a ha (fun y _ fy => hall f hf y fy) x hx (hall e he x ex)
    rw [fx] at this
    cases this
  cases cur with
  | nil => rfl
  | cons c cur =>
    obtain ⟨v, hv⟩ := h.irr.some c (List.mem_cons_self ..)
    exact absurd ⟨c, List.mem_cons_self .., hv⟩ (hn v)
end Go.Proofs.YtplidcbfbonjlaaDoor
