/- The abstract machine, 10: maps; append, copy, make and their kin. -/
import Derived.Test.YteajocebbmfdmaaGreatDoorAbsI
namespace Go.Abs
section
variable {P : Program} {ι : Iota} {m : AMem} {w : World}

theorem MRel.map_obj (h : MRel P ι m w) {i c sh cp : Nat} {es : List MapEntry} {clock : Nat} (hi : ι i = some (c, sh, cp)) (ho : m[i]? = some (.map es clock)) : sh = 0 ∧ ∃ es', w.heap[c]? = some (.map es' clock) ∧ ERel ι es es' :=
  h.obj i c sh cp _ hi ho

theorem run_getObj' {r : Nat} {o : Obj} (h : w.heap[r]? = some o) (hn : ∀ c e f, o ≠ .cells c e f) : (getObj r).run P w = .ok o w := by
  simp only [getObj, Sem.run, h]
  try (split <;> simp_all)

theorem run_setObj' {r : Nat} {o o' : Obj} (h : w.heap[r]? = some o) (hn : ∀ c e f, o ≠ .cells c e f) : (setObj r o').run P w = .ok () { w with heap := w.heap.setIfInBounds r o' } := by
  simp only [setObj, Sem.run, h]
  try (split <;> simp_all)

theorem set_heap (w : World) (r : Nat) (o : Obj) : (∀ b, b ≠ r → ({ w with heap := w.heap.setIfInBounds r o } : World).heap[b]? = w.heap[b]?) := by
  intro b hb
  simp [Ne.symm hb]

/-- An object other than a row is written. -/
theorem MRel.setObj (h : MRel P ι m w) {i c sh cp : Nat} {o o' : AObj} {X X' : Obj} (hi : ι i = some (c, sh, cp)) (ho : m[i]? = some o) (hown : o.own = true) (hown' : o'.own = true) (_hX : w.heap[c]? = some X)
    (hr : ORel P ι { w with heap := w.heap.setIfInBounds c X' } c sh cp o') :
    MRel P ι (m.set i o') { w with heap := w.heap.setIfInBounds c X' } ∧ Step m ι w (m.set i o') ι { w with heap := w.heap.setIfInBounds c X' } :=
  h.update hi ho hown (.inl hown') (set_heap w c X') hr rfl rfl rfl (by simp)

theorem set_self {c : Nat} {X X' : Obj} (h : w.heap[c]? = some X) : ({ w with heap := w.heap.setIfInBounds c X' } : World).heap[c]? = some X' := by
  have := (Array.getElem?_eq_some_iff.1 h).1
  simp [this]

theorem ERel.find {es : List MapEntry} {es' : Array MapEntry} (h : ERel ι es es') :
    (es.length = es'.toList.length ∧ ∀ (i : Nat) (e e' : MapEntry), es[i]? = some e → es'.toList[i]? = some e' → e'.key = e.key ∧ VRel ι e.key e.key ∧ VRel ι e.val e'.val) :=
  ⟨h.1, fun i e e' a b => let ⟨x, y, _, z⟩ := h.2 i e e' a b; ⟨x, .of_plain y, z⟩⟩

theorem ERel.size {es : List MapEntry} {es' : Array MapEntry} (h : ERel ι es es') : es'.size = es.length := by
  have := h.1; simpa using this.symm

theorem ERel.get {es : List MapEntry} {es' : Array MapEntry} (h : ERel ι es es') {i : Nat} {e : MapEntry} (he : es[i]? = some e) : ∃ e', es'[i]? = some e' ∧ e'.key = e.key ∧ plainKey e.key = true ∧ e'.born = e.born ∧ VRel ι e.val e'.val := by
  obtain ⟨hi, _⟩ := List.getElem?_eq_some_iff.1 he
  have hi' : i < es'.toList.length := h.1 ▸ hi
  have := h.2 i e _ he (List.getElem?_eq_getElem hi')
  exact ⟨_, by rw [← Array.getElem?_toList]; exact List.getElem?_eq_getElem hi', this⟩

theorem ERel.push {es : List MapEntry} {es' : Array MapEntry} (h : ERel ι es es') {k v v' : Value} {b : Nat} (hk : plainKey k = true) (hv : VRel ι v v') : ERel ι (es ++ [{ key := k, val := v, born := b }]) (es'.push { key := k, val := v', born := b }) := by
  refine ⟨by simp [h.1], fun i e e' a c => ?_⟩
  rw [Array.toList_push] at c
  by_cases hi : i < es.length
  · rw [List.getElem?_append_left hi] at a
    rw [List.getElem?_append_left (h.1 ▸ hi)] at c
    exact h.2 i e e' a c
  · rw [List.getElem?_append_right (by omega)] at a
    rw [List.getElem?_append_right (by have := h.1; omega)] at c
    rw [← h.1] at c
    cases hj : i - es.length with
    | zero => rw [hj] at a c; simp at a c; subst a; subst c; exact ⟨rfl, hk, rfl, hv⟩
    | succ j => rw [hj] at a; simp at a

theorem ERel.modify {es : List MapEntry} {es' : Array MapEntry} (h : ERel ι es es') (i : Nat) {f f' : MapEntry → MapEntry}
    (hf : ∀ e e', e'.key = e.key → plainKey e.key = true → e'.born = e.born → VRel ι e.val e'.val → (f' e').key = (f e).key ∧ plainKey (f e).key = true ∧ (f' e').born = (f e).born ∧ VRel ι (f e).val (f' e').val) :
    ERel ι (es.modify i f) (es'.modify i f') := by
  refine ⟨by simp [h.1], fun j e e' a b => ?_⟩
  rw [List.getElem?_modify] at a
  rw [Array.toList_modify, List.getElem?_modify] at b
  obtain ⟨x, hx, hxe⟩ := Option.map_eq_some_iff.1 a
  obtain ⟨y, hy, hye⟩ := Option.map_eq_some_iff.1 b
  have := h.2 j x y hx hy
  subst hxe; subst hye
  split
  · exact hf x y this.1 this.2.1 this.2.2.1 this.2.2.2
  · exact this

theorem ERel.erase {es : List MapEntry} {es' : Array MapEntry} (h : ERel ι es es') (i : Nat) (hi : i < es.length) : ERel ι (es.eraseIdx i) (es'.eraseIdxIfInBounds i) := by
  have hi' : i < es'.size := by rw [h.size]; exact hi
  rw [Array.eraseIdxIfInBounds, dif_pos hi']
  refine ⟨by simp [List.length_eraseIdx, hi, h.size], fun j e e' a b => ?_⟩
  rw [Array.toList_eraseIdx] at b
  rw [List.getElem?_eraseIdx] at a b
  split at a
  · rename_i hj; rw [if_pos hj] at b; exact h.2 j e e' a b
  · rename_i hj; rw [if_neg hj] at b; exact h.2 (j + 1) e e' a b

theorem keys_sound {t : TypeId} {k k' : Value} (hk : VRel ι k k') (h : (keyOk P 10000 t k && plainKey k) = true) : k' = k ∧ VRel ι k k ∧ (∀ em, (Instr.checkKey em 10000 t k).run P w = .ok () w) ∧ ∃ d, P.underlying t = some d := by
  simp only [Bool.and_eq_true] at h
  have e := plainKey_eq hk h.2
  subst e
  refine ⟨rfl, hk, fun em => keyOk_sound 10000 em t k' k' h.1 hk, ?_⟩
  have h1 := h.1
  rw [show (10000 : Nat) = 9999 + 1 from rfl] at h1
  unfold keyOk at h1
  split at h1 <;> first | cases h1 | skip
  all_goals first
    | exact ⟨_, by assumption⟩
    | (simp at h1; done)

theorem VRel.of_zeroShut {z : Value} (h : zeroShut z = true) : VRel ι z z := by
  unfold zeroShut at h
  split at h
  · simp only [Bool.and_eq_true] at h
    have := LRel.of_shut (ι := ι) h.1
    exact .agg this.1 this.2 h.2
  · exact .of_shut h

theorem alookup_sound (h : MRel P ι m w) {t : TypeId} {x x' k k' r : Value} {ok : Bool} (hx : VRel ι x x') (hk : VRel ι k k') (he : alookup P t x k ok m = some r) :
    ∃ r', (Instr.lookup t x' k' ok).run P w = .ok r' w ∧ VRel ι r r' := by
  unfold alookup at he
  split at he
  · rename_i key elem hu
    split at he
    · rename_i hkey
      obtain ⟨rfl, hkk, hck, d, hd⟩ := keys_sound (w := w) hk hkey
      simp only at he
      split at he
      · rename_i es hes
        have hmap : ∃ es', ERel ι es es' ∧ ((x' = .map none ∧ es' = #[]) ∨ ∃ c clock, x' = .map (some c) ∧ w.heap[c]? = some (.map es' clock)) := by
          split at hes
          · simp at hes; subst hes
            cases hx
            exact ⟨#[], ⟨rfl, fun i e e' a => by simp at a⟩, .inl ⟨rfl, rfl⟩⟩
          · split at hes
            · rename_i b es2 clock hm
              simp at hes; subst hes
              cases hx with
              | map hb =>
                obtain ⟨rfl, es', hX, her⟩ := h.map_obj hb hm
                exact ⟨es', her, .inr ⟨_, _, rfl, hX⟩⟩
            · cases hes
          · cases hes
        obtain ⟨es', her, hcase⟩ := hmap
        have hres : ∃ q r', (Instr.findKey key k' es'.toList).run P w = .ok q w ∧ VRel ι r r' ∧
            ((∃ j v', q = some (j, v') ∧ r' = if ok then Value.tuple #[v', .bool true] else v') ∨ (∃ z, q = none ∧ (zeroValue elem).run P w = .ok z w ∧ r' = if ok then Value.tuple #[z, .bool false] else z)) := by
          split at he
          · rename_i j v hf
            obtain ⟨r1, h1, h2⟩ := findKey_sound (w := w) hd hkk her.find hf
            cases r1 with
            | none => exact h2.elim
            | some q =>
              obtain ⟨j', v'⟩ := q
              obtain ⟨_, hv⟩ := h2
              simp only [Option.some.injEq] at he; subst he
              refine ⟨_, _, h1, ?_, .inl ⟨j', v', rfl, rfl⟩⟩
              cases ok with
              | true => exact VRel.tuple_of (cs := [v, .bool true]) (cs' := [v', .bool true]) (.cons hv (.cons (.bool true) (LRel.nil ι)))
              | false => exact hv
          · rename_i hf
            obtain ⟨r1, h1, h2⟩ := findKey_sound (w := w) hd hkk her.find hf
            cases r1 with
            | some q => exact h2.elim
            | none =>
              split at he
              · rename_i z hz
                obtain ⟨i, hi, hzi⟩ := azero_info hz
                split at he
                · rename_i hshut
                  have hv : VRel ι z z := .of_zeroShut hshut
                  simp only [Option.some.injEq] at he; subst he
                  refine ⟨_, _, h1, ?_, .inr ⟨z, rfl, run_zeroValue' hi hzi, rfl⟩⟩
                  cases ok with
                  | true => exact VRel.tuple_of (cs := [z, .bool false]) (cs' := [z, .bool false]) (.cons hv (.cons (.bool false) (LRel.nil ι)))
                  | false => exact hv
                · cases he
              · cases he
          · cases he
        obtain ⟨q, r', h1, h2, h3⟩ := hres
        refine ⟨r', ?_, h2⟩
        unfold Instr.lookup
        simp only [Sem.run_bind, run_underlying' hu, Result.andThen_ok]
        rcases hcase with ⟨rfl, rfl⟩ | ⟨c, clock, rfl, hX⟩
        · simp only [pure_bind, Sem.run_bind, hck, Result.andThen_ok, h1]
          rcases h3 with ⟨j, v', rfl, rfl⟩ | ⟨z, rfl, hz, rfl⟩
          · simp
          · simp [hz]
        · simp only [Sem.run_bind, run_getObj' hX (by simp), Result.andThen_ok, pure_bind, hck, h1]
          rcases h3 with ⟨j, v', rfl, rfl⟩ | ⟨z, rfl, hz, rfl⟩
          · simp
          · simp [hz]
      · cases he
    · cases he
  · cases he

theorem run_keyThatStays {old new : Value} (h : Instr.sameBits 10000 old new = true) : (Instr.keyThatStays old new).run P w = .ok new w := by
  simp [Instr.keyThatStays, h]

theorem amapUpdate_sound (h : MRel P ι m w) {t : TypeId} {x x' k k' v v' : Value} {m' : AMem} (hx : VRel ι x x') (hk : VRel ι k k') (hv : VRel ι v v') (he : amapUpdate P t x k v m = some m') :
    ∃ w', (Instr.mapUpdate t x' k' v').run P w = .ok () w' ∧ MRel P ι m' w' ∧ Step m ι w m' ι w' := by
  unfold amapUpdate at he
  split at he
  · rename_i key elem r hu
    split at he
    · rename_i hkey
      obtain ⟨rfl, hkk, hck, d, hd⟩ := keys_sound (w := w) hk hkey
      have hplain : plainKey k' = true := by simp only [Bool.and_eq_true] at hkey; exact hkey.2
      split at he
      · rename_i es clock hm
        cases hx with
        | map hb =>
          obtain ⟨rfl, es', hX, her⟩ := h.map_obj hb hm
          unfold Instr.mapUpdate
          simp only [Sem.run_bind, run_underlying' hu, Result.andThen_ok, run_getObj' hX (by simp), hck]
          split at he
          · rename_i j u hf
            split at he
            · rename_i e hej
              split at he
              · rename_i hsame
                simp at he; subst he
                obtain ⟨r1, h1, h2⟩ := findKey_sound (w := w) hd hkk her.find hf
                cases r1 with
                | none => exact h2.elim
                | some q =>
                  obtain ⟨j', u'⟩ := q
                  obtain ⟨rfl, _⟩ := h2
                  obtain ⟨e', he', hke, hpl, _, _⟩ := her.get hej
                  simp only [h1, Result.andThen_ok, Sem.run_bind, he', Option.map_some, Option.getD_some, hke, run_keyThatStays hsame]
                  rw [run_setObj' hX (by simp)]
                  have := h.setObj hb hm rfl (o' := .map (es.modify j fun e => { e with key := k', val := v }) clock) rfl hX (X' := .map (es'.modify j fun e => { e with key := k', val := v' }) clock)
                    ⟨rfl, _, set_self hX, her.modify j (fun e e' a b c d => ⟨rfl, hplain, c, hv⟩)⟩
                  exact ⟨_, rfl, this.1, this.2⟩
              · cases he
            · cases he
          · rename_i hf
            simp at he; subst he
            obtain ⟨r1, h1, h2⟩ := findKey_sound (w := w) hd hkk her.find hf
            cases r1 with
            | some q => exact h2.elim
            | none =>
              simp only [h1, Result.andThen_ok]
              rw [run_setObj' hX (by simp)]
              have := h.setObj hb hm rfl (o' := .map (es ++ [{ key := k', val := v, born := clock }]) (clock + 1)) rfl hX (X' := .map (es'.push { key := k', val := v', born := clock }) (clock + 1))
                ⟨rfl, _, set_self hX, her.push hplain hv⟩
              exact ⟨_, rfl, this.1, this.2⟩
          · cases he
      · cases he
    · cases he
  · cases he

theorem adelete_sound (h : MRel P ι m w) {ts : Array TypeId} {ty t : TypeId} {x x' k k' : Value} {m' : AMem} (ht : ts[0]? = some t) (hx : VRel ι x x') (hk : VRel ι k k') (he : adelete P t x k m = some m') :
    ∃ w', (Builtin.delete_ ts ty #[x', k']).run P w = .ok (.tuple #[]) w' ∧ MRel P ι m' w' ∧ Step m ι w m' ι w' := by
  unfold adelete at he
  split at he
  · rename_i key elem r hu
    split at he
    · rename_i hkey
      obtain ⟨rfl, hkk, hck, d, hd⟩ := keys_sound (w := w) hk hkey
      split at he
      · rename_i es clock hm
        cases hx with
        | map hb =>
          obtain ⟨rfl, es', hX, her⟩ := h.map_obj hb hm
          unfold Builtin.delete_
          simp only [ht, List.getElem?_toArray, List.getElem?_cons_zero, List.getElem?_cons_succ, Sem.run_bind, run_underlying' hu, Result.andThen_ok, run_getObj' hX (by simp), hck]
          split at he
          · rename_i j u hf
            simp at he; subst he
            obtain ⟨r1, h1, h2⟩ := findKey_sound (w := w) hd hkk her.find hf
            cases r1 with
            | none => exact h2.elim
            | some q =>
              obtain ⟨j', u'⟩ := q
              obtain ⟨rfl, _⟩ := h2
              obtain ⟨_, e, hej, _⟩ := afind_at es 0 j u hf
              have hlt := (List.getElem?_eq_some_iff.1 hej).1
              simp only [h1, Result.andThen_ok, Sem.run_bind]
              rw [run_setObj' hX (by simp)]
              have := h.setObj hb hm rfl (o' := .map (es.eraseIdx j) clock) rfl hX (X' := .map (es'.eraseIdxIfInBounds j) clock) ⟨rfl, _, set_self hX, her.erase j (by simpa using hlt)⟩
              exact ⟨_, by simp, this.1, this.2⟩
          · rename_i hf
            simp at he; subst he
            obtain ⟨r1, h1, h2⟩ := findKey_sound (w := w) hd hkk her.find hf
            cases r1 with
            | some q => exact h2.elim
            | none =>
              simp only [h1, Result.andThen_ok, Sem.run_bind]
              rw [run_setObj' hX (by simp)]
              have := h.setObj hb hm rfl (o' := .map es clock) rfl hX (X' := .map es' clock) ⟨rfl, _, set_self hX, her⟩
              exact ⟨_, by simp, this.1, this.2⟩
          · cases he
      · cases he
    · cases he
  · cases he

theorem amapEntry_sound (h : MRel P ι m w) {t : TypeId} {x x' k k' : Value} {r : ARes} {m' : AMem} (hx : VRel ι x x') (hk : VRel ι k k') (he : amapEntry P t x k m = some (r, m')) :
    ∃ w' u u', r = .val u ∧ (Instr.mapEntry t x' k').run P w = .ok u' w' ∧ VRel ι u u' ∧ MRel P ι m' w' ∧ Step m ι w m' ι w' := by
  unfold amapEntry at he
  split at he
  · rename_i key elem rr hu
    split at he
    · rename_i hkey
      obtain ⟨rfl, hkk, hck, d, hd⟩ := keys_sound (w := w) hk hkey
      have hplain : plainKey k' = true := by simp only [Bool.and_eq_true] at hkey; exact hkey.2
      split at he
      · rename_i es clock hm
        cases hx with
        | map hb =>
          obtain ⟨rfl, es', hX, her⟩ := h.map_obj hb hm
          unfold Instr.mapEntry
          simp only [Sem.run_bind, run_underlying' hu, Result.andThen_ok, run_getObj' hX (by simp), hck]
          split at he
          · rename_i j u hf
            split at he
            · rename_i e hej
              split at he
              · rename_i hsame
                simp at he; obtain ⟨rfl, rfl⟩ := he
                obtain ⟨r1, h1, h2⟩ := findKey_sound (w := w) hd hkk her.find hf
                cases r1 with
                | none => exact h2.elim
                | some q =>
                  obtain ⟨j', u'⟩ := q
                  obtain ⟨rfl, hvv⟩ := h2
                  obtain ⟨e', he', hke, hpl, hborn, _⟩ := her.get hej
                  simp only [h1, Result.andThen_ok, Sem.run_bind, he', Option.map_some, Option.getD_some, hke, run_keyThatStays hsame]
                  rw [run_setObj' hX (by simp)]
                  have := h.setObj hb hm rfl (o' := .map (es.modify j fun e => { e with key := k' }) clock) rfl hX (X' := .map (es'.modify j fun e => { e with key := k' }) clock)
                    ⟨rfl, _, set_self hX, her.modify j (fun e e' a b c d => ⟨rfl, hplain, c, d⟩)⟩
                  refine ⟨_, _, _, rfl, by simp; rfl, ?_, this.1, this.2⟩
                  rw [hborn]
                  exact VRel.tuple_of (cs := [u, goInt e.born]) (cs' := [u', goInt e.born]) (.cons hvv (.cons (.int _ _) (LRel.nil ι)))
              · cases he
            · cases he
          · rename_i hf
            split at he
            · rename_i z hz
              obtain ⟨i, hi, hzi⟩ := azero_info hz
              split at he
              · rename_i hs
                simp at he; obtain ⟨rfl, rfl⟩ := he
                obtain ⟨r1, h1, h2⟩ := findKey_sound (w := w) hd hkk her.find hf
                cases r1 with
                | some q => exact h2.elim
                | none =>
                  simp only [h1, Result.andThen_ok, Sem.run_bind, run_zeroValue' hi hzi]
                  rw [run_setObj' hX (by simp)]
                  have hv : VRel ι z z := .of_shut hs
                  have := h.setObj hb hm rfl (o' := .map (es ++ [{ key := k', val := z, born := clock }]) (clock + 1)) rfl hX (X' := .map (es'.push { key := k', val := z, born := clock }) (clock + 1))
                    ⟨rfl, _, set_self hX, her.push hplain hv⟩
                  refine ⟨_, _, _, rfl, by simp; rfl, ?_, this.1, this.2⟩
                  exact VRel.tuple_of (cs := [z, goInt clock]) (cs' := [z, goInt clock]) (.cons hv (.cons (.int _ _) (LRel.nil ι)))
              · cases he
            · cases he
          · cases he
      · cases he
    · cases he
  · cases he

theorem aentryStore_sound (h : MRel P ι m w) {t : TypeId} {x x' s s' v v' : Value} {m' : AMem} (hx : VRel ι x x') (hs : VRel ι s s') (hv : VRel ι v v') (he : aentryStore x s v m = some m') :
    ∃ w', (Instr.entryStore t x' s' v').run P w = .ok () w' ∧ MRel P ι m' w' ∧ Step m ι w m' ι w' := by
  unfold aentryStore at he
  split at he
  · rename_i r k born
    cases hs
    split at he
    · rename_i es clock hm
      cases hx with
      | map hb =>
        obtain ⟨rfl, es', hX, her⟩ := h.map_obj hb hm
        split at he
        · rename_i i hi
          simp at he; subst he
          have hfind : ∀ (l : List MapEntry) (l' : List MapEntry) , (l.length = l'.length ∧ ∀ (i : Nat) (e e' : MapEntry), l[i]? = some e → l'[i]? = some e' → e'.born = e.born) → l'.findIdx? (fun e => (e.born : Int) == born) = l.findIdx? (fun e => (e.born : Int) == born) := by
            intro l
            induction l with
            | nil => intro l' hl; have : l' = [] := by simpa using hl.1.symm
                     subst this; rfl
            | cons e l ih =>
              intro l' hl
              cases l' with
              | nil => simp at hl
              | cons e' l' =>
                have h0 := hl.2 0 e e' rfl rfl
                rw [List.findIdx?_cons, List.findIdx?_cons, h0, ih l' ⟨by simpa using hl.1, fun i a b ha hb => hl.2 (i + 1) a b (by simpa using ha) (by simpa using hb)⟩]
          have hi' : es'.findIdx? (fun e => (e.born : Int) == born) = some i := by
            have hlist : es'.findIdx? (fun e => (e.born : Int) == born) = es'.toList.findIdx? (fun e => (e.born : Int) == born) := by cases es'; simp
            rw [hlist, hfind es es'.toList ⟨her.1, fun i a b ha hb => (her.2 i a b ha hb).2.2.1⟩]
            exact hi
          unfold Instr.entryStore
          simp only [Sem.run_bind, run_getObj' hX (by simp), Result.andThen_ok, asInt, asIntOf, pure_bind, hi']
          rw [run_setObj' hX (by simp)]
          have := h.setObj hb hm rfl (o' := .map (es.modify i fun e => { e with val := v }) clock) rfl hX (X' := .map (es'.modify i fun e => { e with val := v' }) clock)
            ⟨rfl, _, set_self hX, her.modify i (fun e e' a b c d => ⟨a, b, c, hv⟩)⟩
          exact ⟨_, rfl, this.1, this.2⟩
        · cases he
    · cases he
  · cases he

end
end Go.Abs
