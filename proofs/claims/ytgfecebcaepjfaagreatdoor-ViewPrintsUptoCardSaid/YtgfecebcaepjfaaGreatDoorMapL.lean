/- Laws of maps as lists. -/
import Derived.Test.YtgfecebcaepjfaaGreatDoorLoopL
namespace Go.Ev
open Go

/-- keys that are held equal are equal -/
def KE (t : Ty) : Prop := ∀ a b : t.den, keyEq t a b = true ↔ a = b
theorem KE_str : KE .str := fun a b => by simp [keyEq]
theorem KE_int (k : IntKind) : KE (.int k) := fun a b => by simp [keyEq]

section
variable {t : Ty} {β : Type}

theorem KE.ne (h : KE t) {a b : t.den} (hn : a ≠ b) : keyEq t a b = false := by
  cases e : keyEq t a b with
  | false => rfl
  | true => exact absurd ((h a b).1 e) hn
theorem KE.eq (h : KE t) (a : t.den) : keyEq t a a = true := (h a a).2 rfl

theorem mapGet_none (h : KE t) {k : t.den} : ∀ {l : List (t.den × β)}, mapGet t l k = none ↔ ∀ p ∈ l, p.1 ≠ k
  | [] => by simp [mapGet]
  | e :: r => by
    by_cases he : e.1 = k
    · simp only [mapGet, (h e.1 k).2 he, cond_true]
      constructor
      · intro h'; cases h'
      · intro h'; exact absurd he (h' e (by simp))
    · simp only [mapGet, h.ne he, cond_false, mapGet_none h (l := r), List.mem_cons, forall_eq_or_imp, ne_eq]
      exact ⟨fun h' => ⟨he, h'⟩, fun h' => h'.2⟩

theorem mapGet_some (h : KE t) {k : t.den} {x : β} : ∀ {l : List (t.den × β)}, mapGet t l k = some x → (k, x) ∈ l
  | [], e => by simp [mapGet] at e
  | e :: r, h' => by
    by_cases he : e.1 = k
    · simp only [mapGet, (h e.1 k).2 he, cond_true, Option.some.injEq] at h'
      obtain ⟨a, b⟩ := e
      simp only at he h'
      subst he
      subst h'
      simp
    · simp only [mapGet, h.ne he, cond_false] at h'
      exact List.mem_cons_of_mem _ (mapGet_some h h')

theorem mapGet_mem (h : KE t) {k : t.den} {x : β} : ∀ {l : List (t.den × β)}, (l.map (·.1)).Nodup → (k, x) ∈ l → mapGet t l k = some x
  | [], _, hm => by simp at hm
  | e :: r, hn, hm => by
    simp only [List.map_cons, List.nodup_cons, List.mem_map, not_exists, not_and] at hn
    rcases List.mem_cons.1 hm with rfl | hm
    · simp only [mapGet, h.eq, cond_true]
    · have he : e.1 ≠ k := fun e' => hn.1 (k, x) hm e'.symm
      simp only [mapGet, h.ne he, cond_false]
      exact mapGet_mem h hn.2 hm

theorem mapSet_new (h : KE t) {k : t.den} {x : β} : ∀ {l : List (t.den × β)}, mapGet t l k = none → mapSet t l k x = l ++ [(k, x)]
  | [], _ => rfl
  | e :: r, hg => by
    have he : e.1 ≠ k := (mapGet_none h).1 hg e (by simp)
    simp only [mapGet, h.ne he, cond_false] at hg
    simp only [mapSet, h.ne he, cond_false, mapSet_new h hg, List.cons_append]

theorem mapSet_keys (h : KE t) {k : t.den} {x y : β} : ∀ {l : List (t.den × β)}, mapGet t l k = some y → (mapSet t l k x).map (·.1) = l.map (·.1)
  | [], e => by simp [mapGet] at e
  | e :: r, hg => by
    by_cases he : e.1 = k
    · have hk : keyEq t e.1 k = true := (h e.1 k).2 he
      simp only [mapSet, hk, cond_true, List.map_cons]
      rw [he]
    · simp only [mapGet, h.ne he, cond_false] at hg
      simp only [mapSet, h.ne he, cond_false, List.map_cons, mapSet_keys h hg]

theorem mapSet_nd (h : KE t) {k : t.den} {x : β} {l : List (t.den × β)} (hn : (l.map (·.1)).Nodup) : ((mapSet t l k x).map (·.1)).Nodup := by
  cases hg : mapGet t l k with
  | none =>
    rw [mapSet_new h hg, List.map_append, List.nodup_append]
    refine ⟨hn, by simp, fun a ha b hb => ?_⟩
    simp only [List.map_cons, List.map_nil, List.mem_singleton] at hb
    subst hb
    obtain ⟨p, hp, rfl⟩ := List.mem_map.1 ha
    exact (mapGet_none h).1 hg p hp
  | some y => rw [mapSet_keys h hg]; exact hn

theorem mapSet_len (h : KE t) {k : t.den} {x : β} {l : List (t.den × β)} : (mapSet t l k x).length = cond (mapGet t l k).isSome l.length (l.length + 1) := by
  cases hg : mapGet t l k with
  | none => simp [mapSet_new h hg]
  | some y =>
    have := congrArg List.length (mapSet_keys h (x := x) hg)
    simpa using this

theorem mapSet_mem (h : KE t) {k : t.den} {x : β} : ∀ {l : List (t.den × β)}, (l.map (·.1)).Nodup → ∀ p, p ∈ mapSet t l k x ↔ p = (k, x) ∨ (p ∈ l ∧ p.1 ≠ k)
  | [], _, p => by simp [mapSet]
  | e :: r, hn, p => by
    simp only [List.map_cons, List.nodup_cons, List.mem_map, not_exists, not_and] at hn
    by_cases he : e.1 = k
    · simp only [mapSet, (h e.1 k).2 he, cond_true, List.mem_cons]
      constructor
      · rintro (rfl | hp)
        · exact .inl rfl
        · exact .inr ⟨.inr hp, fun e' => hn.1 p hp (by rw [e', he])⟩
      · rintro (rfl | ⟨rfl | hp, hne⟩)
        · exact .inl rfl
        · exact absurd he hne
        · exact .inr hp
    · simp only [mapSet, h.ne he, cond_false, List.mem_cons, mapSet_mem h hn.2 p]
      constructor
      · rintro (rfl | rfl | ⟨hp, hne⟩)
        · exact .inr ⟨.inl rfl, he⟩
        · exact .inl rfl
        · exact .inr ⟨.inr hp, hne⟩
      · rintro (rfl | ⟨rfl | hp, hne⟩)
        · exact .inr (.inl rfl)
        · exact .inl rfl
        · exact .inr (.inr ⟨hp, hne⟩)

theorem mapDel_sub : ∀ (l : List (t.den × β)) (k : t.den), (mapDel t l k).Sublist l
  | [], _ => by simp [mapDel]
  | e :: r, k => by
    cases he : keyEq t e.1 k with
    | true => simp only [mapDel, he, cond_true]; exact List.sublist_cons_self _ _
    | false => simp only [mapDel, he, cond_false]; exact (mapDel_sub r k).cons_cons _

theorem mapDel_nd {k : t.den} {l : List (t.den × β)} (hn : (l.map (·.1)).Nodup) : ((mapDel t l k).map (·.1)).Nodup := ((mapDel_sub l k).map _).nodup hn

theorem mapDel_mem (h : KE t) {k : t.den} : ∀ {l : List (t.den × β)}, (l.map (·.1)).Nodup → ∀ p, p ∈ mapDel t l k ↔ p ∈ l ∧ p.1 ≠ k
  | [], _, p => by simp [mapDel]
  | e :: r, hn, p => by
    simp only [List.map_cons, List.nodup_cons, List.mem_map, not_exists, not_and] at hn
    by_cases he : e.1 = k
    · simp only [mapDel, (h e.1 k).2 he, cond_true, List.mem_cons]
      constructor
      · intro hp
        exact ⟨.inr hp, fun e' => hn.1 p hp (by rw [e', he])⟩
      · rintro ⟨rfl | hp, hne⟩
        · exact absurd he hne
        · exact hp
    · simp only [mapDel, h.ne he, cond_false, List.mem_cons, mapDel_mem h hn.2 p]
      constructor
      · rintro (rfl | ⟨hp, hne⟩)
        · exact ⟨.inl rfl, he⟩
        · exact ⟨.inr hp, hne⟩
      · rintro ⟨rfl | hp, hne⟩
        · exact .inl rfl
        · exact .inr ⟨hp, hne⟩

theorem mapDel_len (h : KE t) {k : t.den} {y : β} : ∀ {l : List (t.den × β)}, mapGet t l k = some y → (mapDel t l k).length + 1 = l.length
  | [], e => by simp [mapGet] at e
  | e :: r, hg => by
    by_cases he : e.1 = k
    · simp only [mapDel, (h e.1 k).2 he, cond_true, List.length_cons]
    · simp only [mapGet, h.ne he, cond_false] at hg
      simp only [mapDel, h.ne he, cond_false, List.length_cons, mapDel_len h hg]

/-- A map is known by what it holds. -/
theorem mapGet_iff (h : KE t) {l : List (t.den × β)} (hn : (l.map (·.1)).Nodup) {k : t.den} {x : β} : mapGet t l k = some x ↔ (k, x) ∈ l := ⟨mapGet_some h, mapGet_mem h hn⟩

theorem mapGet_set (h : KE t) {l : List (t.den × β)} (hn : (l.map (·.1)).Nodup) {k k' : t.den} {x : β} : mapGet t (mapSet t l k x) k' = cond (keyEq t k' k) (some x) (mapGet t l k') := by
  by_cases hk : k' = k
  · subst hk
    rw [h.eq, cond_true]
    exact mapGet_mem h (mapSet_nd h hn) ((mapSet_mem h hn _).2 (.inl rfl))
  · rw [h.ne hk, cond_false]
    cases hg : mapGet t l k' with
    | none =>
      rw [mapGet_none h] at hg ⊢
      intro p hp
      rcases (mapSet_mem h hn p).1 hp with rfl | ⟨hp, _⟩
      · exact fun e => hk e.symm
      · exact hg p hp
    | some y => exact mapGet_mem h (mapSet_nd h hn) ((mapSet_mem h hn _).2 (.inr ⟨mapGet_some h hg, hk⟩))

theorem mapGet_del (h : KE t) {l : List (t.den × β)} (hn : (l.map (·.1)).Nodup) {k k' : t.den} : mapGet t (mapDel t l k) k' = cond (keyEq t k' k) none (mapGet t l k') := by
  by_cases hk : k' = k
  · subst hk
    rw [h.eq, cond_true, mapGet_none h]
    exact fun p hp => ((mapDel_mem h hn p).1 hp).2
  · rw [h.ne hk, cond_false]
    cases hg : mapGet t l k' with
    | none =>
      rw [mapGet_none h] at hg ⊢
      exact fun p hp => hg p ((mapDel_mem h hn p).1 hp).1
    | some y => exact mapGet_mem h (mapDel_nd hn) ((mapDel_mem h hn _).2 ⟨mapGet_some h hg, hk⟩)
end
end Go.Ev
