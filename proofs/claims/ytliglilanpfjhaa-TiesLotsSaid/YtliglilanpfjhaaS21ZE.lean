/- The order that keys make. -/
import Derived.Test.YtliglilanpfjhaaS21ZB
namespace Go.Proofs.Ytliglilanpfjhaa
open Go.Pv
set_option maxRecDepth 100000
set_option maxHeartbeats 8000000
abbrev plain1 : PV := fn0 F.ties_plain_1
def hasC (k : Ke) : PV := .func (.func F.ties_plain_2) [] [.iptr (kC k.kind) 0, .iptr k.enc 0]
def firstC (k : Ke) : PV := .func (.func F.ties_plain_3) [] [.iptr (kC k.kind) 0, .iptr k.enc 0]
def hasRow (l : List Ke) : List PV := l.map hasC
def firstRow (l : List Ke) : List PV := plain1 :: l.map firstC
def ordC (l : List Ke) : List PV := [.list false (hasRow l) l.length, .list false (firstRow l) (l.length + 1)]
def okKeys (l : List Ke) : List Ke := l.takeWhile fun k => kOk k.kind
abbrev ids : List PV → List PV := fun l => l
theorem ids_len (l : List PV) : (ids l).length = l.length * 1 := by simp
theorem ids_app (l m : List PV) : ids (l ++ m) = ids l ++ ids m := rfl
theorem okKeys_step {l : List Ke} {i : Nat} (h : i < l.length) (hp : okKeys (l.take i) = l.take i) (hk : kOk l[i].kind = true) : okKeys (l.take (i + 1)) = l.take (i + 1) := by
  rw [List.take_succ_eq_append_getElem h]
  unfold okKeys at *
  rw [List.takeWhile_append, hp, if_pos rfl]
  simp [hk]
theorem okKeys_stop {l : List Ke} {i : Nat} (h : i < l.length) (hp : okKeys (l.take i) = l.take i) (hk : kOk l[i].kind = false) : okKeys l = l.take i := by
  have e : l = l.take i ++ l.drop i := (List.take_append_drop i l).symm
  have e2 : l.drop i = l[i] :: l.drop (i + 1) := List.drop_eq_getElem_cons h
  unfold okKeys at *
  conv => lhs; rw [e, List.takeWhile_append, hp, if_pos rfl, e2, List.takeWhile_cons, hk]
  simp
def StoreP (st : Store) (b : Nat) (o : Option (Acc PV)) (a : Acc PV) : Store := accS T.funcapiKeyedbool ((a.b, .arr T.funcapiKeyedapiKeyedint a.R) :: (b, .arr T.tiesorder [accP o, .own a.b 0 a.l.length a.cap]) :: st) o
theorem View.frzSe {e : Env} {st st' st1 : Store} {b : Nat} {o : PObj} (hb : snew st b) (hs : StLe ((b, o) :: st) st1) (ht : FrzSt b o st st') : View ⟨e, st1⟩ ⟨e, st'⟩ := fun I tm w h1 h2 => by
  obtain ⟨I', h3, h4, h5⟩ := (h2.le hs).freeze hb
  exact ⟨I', h3, fun t => vrep_mono h3 _ _ (h1 t), h4.frzs h5 ht⟩
theorem Frzs.len {b : Nat} {o : PObj} : ∀ {l m : List PV}, Frzs b o l m → l.length = m.length
  | _, _, .nil => rfl
  | _, _, .cons _ t => by simp [Frzs.len t]
theorem Frzs.app {b : Nat} {o : PObj} : ∀ {l m l' m' : List PV}, Frzs b o l m → Frzs b o l' m' → Frzs b o (l ++ l') (m ++ m')
  | _, _, _, _, .nil, k => k
  | _, _, _, _, .cons h t, k => .cons h (Frzs.app t k)
theorem acc_frz {b : Nat} {o : PObj} {r : Acc PV} (hr : r.Ok ids 1) {l : List PV} (h : Frzs b o r.l l) (T : TypeId) : ∃ r' : Acc PV, r'.l = l ∧ r'.b = r.b ∧ r'.cap = r.cap ∧ r'.Ok ids 1 ∧ FrzO b o (.arr T r.R) (.arr T r'.R) := by
  have hl := Frzs.len h
  have e : r.R = r.l ++ r.R.drop r.l.length := by
    have := hr.row
    rw [Nat.mul_one] at this
    conv => lhs; rw [← List.take_append_drop r.l.length r.R, this]
  have hR := hr.len
  rw [Nat.mul_one] at hR
  refine ⟨⟨l, r.b, r.cap, l ++ r.R.drop r.l.length⟩, rfl, rfl, rfl, ⟨by rw [← hl]; exact hr.le, hr.cap, ?_, ?_⟩, ?_⟩
  · have h2 := congrArg List.length e
    rw [List.length_append] at h2 ⊢
    simp only [Nat.mul_one]
    omega
  · simp only [Nat.mul_one]
    rw [List.take_left' rfl]
  · refine .arr T ?_
    conv => lhs; rw [e]
    exact Frzs.app h (.refl _)
theorem ord_view {st st1 : Store} {bo b7 b6 : Nat} {r a : Acc PV} {k : Ke} {rl al : List PV} {e e' : Env} (hr : r.Ok ids 1) (ha : a.Ok ids 1)
    (hrl : r.l = rl ++ [.func (.func F.ties_plain_2) [] [.ptr b7 0, .ptr b6 0]]) (hal : a.l = al ++ [.func (.func F.ties_plain_3) [] [.ptr b7 0, .ptr b6 0]])
    (h7 : ¬ b6 = b7 ∧ ¬ r.b = b7 ∧ ¬ a.b = b7 ∧ ¬ bo = b7 ∧ snew st b7) (h6 : ¬ r.b = b6 ∧ ¬ a.b = b6 ∧ ¬ bo = b6 ∧ snew st b6)
    (hs : StLe ((b7, .arr T.tieskind (kC k.kind)) :: (b6, .arr T.apiKey k.enc) :: (r.b, .arr T.funcapiKeyedbool r.R) :: (a.b, .arr T.funcapiKeyedapiKeyedint a.R) :: (bo, .arr T.tiesorder [.own r.b 0 r.l.length r.cap, .own a.b 0 a.l.length a.cap]) :: st) st1)
    (he : ∀ q ∈ e', eget e q.1 = q.2) :
    ∃ r' a' : Acc PV, r'.Ok ids 1 ∧ a'.Ok ids 1 ∧ r'.b = r.b ∧ a'.b = a.b ∧ r'.l = rl ++ [hasC k] ∧ a'.l = al ++ [firstC k] ∧ View ⟨e, st1⟩ ⟨e', StoreP st bo (some r') a'⟩ := by
  obtain ⟨r1, rl1, rb1, rc1, rk1, rf1⟩ := acc_frz (b := b7) (o := .arr T.tieskind (kC k.kind)) (l := rl ++ [.func (.func F.ties_plain_2) [] [.iptr (kC k.kind) 0, .ptr b6 0]]) hr (by
    rw [hrl]; exact Frzs.app (.refl _) (.cons (.func _ .nil (.cons (.ptr _ _ _ rfl) (.cons (.refl _) .nil))) .nil)) T.funcapiKeyedbool
  obtain ⟨a1, al1, ab1, ac1, ak1, af1⟩ := acc_frz (b := b7) (o := .arr T.tieskind (kC k.kind)) (l := al ++ [.func (.func F.ties_plain_3) [] [.iptr (kC k.kind) 0, .ptr b6 0]]) ha (by
    rw [hal]; exact Frzs.app (.refl _) (.cons (.func _ .nil (.cons (.ptr _ _ _ rfl) (.cons (.refl _) .nil))) .nil)) T.funcapiKeyedapiKeyedint
  obtain ⟨r2, rl2, rb2, rc2, rk2, rf2⟩ := acc_frz (b := b6) (o := .arr T.apiKey k.enc) (l := rl ++ [hasC k]) rk1 (by
    rw [rl1]; exact Frzs.app (.refl _) (.cons (.func _ .nil (.cons (.refl _) (.cons (.ptr _ _ _ rfl) .nil))) .nil)) T.funcapiKeyedbool
  obtain ⟨a2, al2, ab2, ac2, ak2, af2⟩ := acc_frz (b := b6) (o := .arr T.apiKey k.enc) (l := al ++ [firstC k]) ak1 (by
    rw [al1]; exact Frzs.app (.refl _) (.cons (.func _ .nil (.cons (.refl _) (.cons (.ptr _ _ _ rfl) .nil))) .nil)) T.funcapiKeyedapiKeyedint
  have er : r.l.length = r2.l.length := by rw [hrl, rl2]; simp
  have ea : a.l.length = a2.l.length := by rw [hal, al2]; simp
  have er1 : r2.b = r.b := rb2.trans rb1
  have ea1 : a2.b = a.b := ab2.trans ab1
  refine ⟨r2, a2, rk2, ak2, er1, ea1, rl2, al2, ?_⟩
  rw [er, ea] at hs
  refine View.trans (t := ⟨e, (b6, .arr T.apiKey k.enc) :: (r.b, .arr T.funcapiKeyedbool r1.R) :: (a.b, .arr T.funcapiKeyedapiKeyedint a1.R) :: (bo, .arr T.tiesorder [.own r.b 0 r2.l.length r.cap, .own a.b 0 a2.l.length a.cap]) :: st⟩)
    (View.frzSe (by simp only [snew]; refine ⟨⟨?_, ?_⟩, ⟨?_, ?_⟩, ⟨?_, ?_⟩, ⟨?_, ?_⟩, h7.2.2.2.2⟩ <;> omega) hs (.cons (.refl _) (.cons rf1 (.cons af1 (.cons (.refl _) (.refl _)))))) ?_
  refine View.frzS (by simp only [snew]; refine ⟨⟨?_, ?_⟩, ⟨?_, ?_⟩, ⟨?_, ?_⟩, h6.2.2.2⟩ <;> omega) (.refl _) ?_ (fun q hq => .of_eq (he q hq))
  unfold StoreP
  simp only [accS_some, accP_some, er1, ea1, rc2.trans rc1, ac2.trans ac1]
  exact .cons rf2 (.cons af2 (.cons (.refl _) (.refl _)))
theorem ord_next {st st1 : Store} {bo b7 b6 : Nat} {r a : Acc PV} {k : Ke} {rl al : List PV} {e : Env} (e' : Env) (hr : r.Ok ids 1) (ha : a.Ok ids 1)
    (hrl : r.l = rl ++ [.func (.func F.ties_plain_2) [] [.ptr b7 0, .ptr b6 0]]) (hal : a.l = al ++ [.func (.func F.ties_plain_3) [] [.ptr b7 0, .ptr b6 0]])
    (h7 : ¬ b6 = b7 ∧ ¬ r.b = b7 ∧ ¬ a.b = b7 ∧ ¬ bo = b7 ∧ snew st b7) (h6 : ¬ r.b = b6 ∧ ¬ a.b = b6 ∧ ¬ bo = b6 ∧ snew st b6)
    (hs : StLe ((b7, .arr T.tieskind (kC k.kind)) :: (b6, .arr T.apiKey k.enc) :: (r.b, .arr T.funcapiKeyedbool r.R) :: (a.b, .arr T.funcapiKeyedapiKeyedint a.R) :: (bo, .arr T.tiesorder [.own r.b 0 r.l.length r.cap, .own a.b 0 a.l.length a.cap]) :: st) st1)
    (he : ∀ q ∈ e', eget e q.1 = q.2) {σ : Type} {E : σ → Env} {S : σ → Store} {inv : σ → Prop} {μ : σ → Nat} {x : σ}
    (hK : ∀ r' a' : Acc PV, r'.Ok ids 1 → a'.Ok ids 1 → r'.b = r.b → a'.b = a.b → r'.l = rl ++ [hasC k] → a'.l = al ++ [firstC k] → ∃ y, inv y ∧ μ y < μ x ∧ E y = e' ∧ S y = StoreP st bo (some r') a') : Pv.Next E S inv μ x ⟨e, st1⟩ := by
  obtain ⟨r', a', q1, q2, q3, q4, q5, q6, q7⟩ := ord_view hr ha hrl hal h7 h6 hs he
  obtain ⟨y, y1, y2, y3, y4⟩ := hK r' a' q1 q2 q3 q4 q5 q6
  exact .view y y1 y2 (by rw [y3, y4]; exact q7)
theorem ord_ret {st S : Store} {bo : Nat} {o : Option (Acc PV)} {a : Acc PV} {L : List Ke} {c : Bool} {Q : PEnd → Store → Prop} (ho : accOk ids 1 ((a.b, .arr T.funcapiKeyedapiKeyedint a.R) :: (bo, .arr T.tiesorder [accP o, .own a.b 0 a.l.length a.cap]) :: st) o) (ha : a.Ok ids 1) (hab : snew st a.b) (hbo : snew st bo) (han : ¬ a.b = bo)
    (h1 : accL o = hasRow L) (h2 : a.l = firstRow L) (hs : StLe (StoreP st bo o a) S) (hq : Q (.ret (.tuple [.agg (ordC L), .bool c])) st) :
    RetView .ret (.tuple [.agg [accP o, .own a.b 0 a.l.length a.cap], .bool c]) S Q := by
  have e2 : (firstRow L).length = L.length + 1 := by simp [firstRow]
  have e1 : (hasRow L).length = L.length := by simp [hasRow]
  cases o with
  | none =>
    have hL : L = [] := by
      cases L with
      | nil => rfl
      | cons => simp [hasRow] at h1
    refine .sees (.drop (st' := (a.b, .arr T.funcapiKeyedapiKeyedint a.R) :: st) (StLe.trans ?_ hs)) ?_
    · unfold StoreP
      simp only [accS_none]
      exact StLe_same (.fresh hbo)
    refine .freeze (.tuple [.agg [.nil, .list false (firstRow L) (L.length + 1)], .bool c]) hab (.tuple (.cons (.agg (.cons (.refl _) (.cons ?_ .nil))) (.cons (.refl _) .nil))) ?_
    · have := Frz.acc (T := T.funcapiKeyedapiKeyedint) ha
      rw [h2, e2] at this
      rw [h2, e2]; exact this
    · subst hL
      refine .le (.tuple2 (.agg2 .nil1 (.refl _)) (.refl _)) (.same ?_)
      exact hq
  | some r =>
    obtain ⟨hr, hrb⟩ := ho
    simp only [accL_some] at h1
    have hrb2 : snew ((a.b, .arr T.funcapiKeyedapiKeyedint a.R) :: st) r.b := by
      simp only [snew] at hrb ⊢
      exact ⟨hrb.1, hrb.2.2⟩
    refine .sees (.drop (st' := (r.b, .arr T.funcapiKeyedbool r.R) :: (a.b, .arr T.funcapiKeyedapiKeyedint a.R) :: st) (StLe.trans ?_ hs)) ?_
    · unfold StoreP
      simp only [accS_some]
      exact StLe_same (StLe_same (.fresh hbo))
    refine .freeze (.tuple [.agg [.list false (hasRow L) L.length, .own a.b 0 a.l.length a.cap], .bool c]) hrb2 (.tuple (.cons (.agg (.cons ?_ (.cons (.refl _) .nil))) (.cons (.refl _) .nil))) ?_
    · have := Frz.acc (T := T.funcapiKeyedbool) hr
      rw [h1, e1] at this
      simp only [accP_some]
      rw [h1, e1]; exact this
    refine .freeze (.tuple [.agg (ordC L), .bool c]) hab (.tuple (.cons (.agg (.cons (.refl _) (.cons ?_ .nil))) (.cons (.refl _) .nil))) (.same hq)
    have := Frz.acc (T := T.funcapiKeyedapiKeyedint) ha
    rw [h2, e2] at this
    rw [h2, e2]; exact this
theorem hasRow_snoc {l : List Ke} {i : Nat} (h : i < l.length) {k : Ke} (hk : k = l[i]) : hasRow (l.take i) ++ [hasC k] = hasRow (l.take (i + 1)) := by
  unfold hasRow
  rw [List.take_succ_eq_append_getElem h, hk, List.map_append]; rfl
theorem firstRow_snoc {l : List Ke} {i : Nat} (h : i < l.length) {k : Ke} (hk : k = l[i]) : firstRow (l.take i) ++ [firstC k] = firstRow (l.take (i + 1)) := by
  unfold firstRow
  rw [List.take_succ_eq_append_getElem h, hk, List.map_append, List.cons_append]; rfl
theorem plain_spec (l : List Ke) (hl : l.length ≤ 100000) (st : Store) : Rets P F.ties_plain [Ke.lst l] st (.tuple [.agg (ordC (okKeys l)), .bool (decide ((okKeys l).length = l.length) && decide (l.length ≤ 32))]) := by
  have ck := kinds_spec
  obtain ⟨ks, hks⟩ : ∃ ks, ks = kKs := ⟨_, rfl⟩
  obtain ⟨vs, hvs⟩ : ∃ ks, ks = kVs := ⟨_, rfl⟩
  rw [← hks, ← hvs] at ck
  have kk : Hid (ks = kKs ∧ vs = kVs) := ⟨hks, hvs⟩
  clear hks hvs
  refine H.ties_plain.view hmix rfl rfl ?_
  repeat' (first 
   | (with_reducible refine Fresh.intro fun b hb => ?_) <;> (try simp -dsimp -implicitDefEqProofs [*] at hb)
   | (with_reducible refine Lit.imm ?_)
   | (simp -dsimp -implicitDefEqProofs [-xappend_list, *]))
  refine xappend_acc0 (row := ids) ids_len [plain1] rfl rfl (by omega) (by omega) fun r hr hl00 hbr => ?_
  have hl0 : Hid (r.l = [plain1]) := ⟨hl00⟩
  clear hl00
  revert b; intro bo hbo hbr
  have hne : ¬ r.b = bo ∧ ¬ bo = r.b := by simp only [snew] at hbr; omega
  have hrb : snew st r.b := by simp only [snew] at hbr; exact hbr.2
  clear hbr
  repeat' (first 
   | (with_reducible refine Rets.xcall (ck _) ?_)
   | (simp -dsimp -implicitDefEqProofs [-xappend_list, *]))
  refine xloop_for (fun y : Nat × Option (Acc PV) × Acc PV => [(0, Ke.lst l), (2, .ptr bo 0), (4, .imap ks vs), (15, Ke.lst l), (16, .int l.length), (17, .int y.1)]) (fun y => StoreP st bo y.2.1 y.2.2)
    (fun y => y.1 ≤ l.length ∧ accOk ids 1 ((y.2.2.b, .arr T.funcapiKeyedapiKeyedint y.2.2.R) :: (bo, .arr T.tiesorder [accP y.2.1, .own y.2.2.b 0 y.2.2.l.length y.2.2.cap]) :: st) y.2.1 ∧ y.2.2.Ok ids 1 ∧ snew st y.2.2.b ∧ ¬ y.2.2.b = bo ∧ Hid (accL y.2.1 = hasRow (l.take y.1) ∧ y.2.2.l = firstRow (l.take y.1) ∧ okKeys (l.take y.1) = l.take y.1)) (fun y => l.length - y.1) (0, none, r)
    ⟨Nat.zero_le _, trivial, hr, hrb, hne.1, ⟨rfl, hl0.out, rfl⟩⟩ (by simp) ?_ ?_
  · have e : r.l.length = 1 := by rw [hl0.out]; rfl
    simp only [StoreP, accS_none, accP_none, e]
    exact .refl _
  rintro ⟨i, o, a⟩ ⟨hi, ho, ha, hab, han, hI⟩
  simp only at hi ho ha hab han hI
  clear hr hl0 hrb hne ck
  have han2 : ¬ bo = a.b := fun e => han e.symm
  by_cases hil : i < l.length
  · have g1 := Ke.row_sub l i hil
    obtain ⟨k, hk⟩ : ∃ k, k = l[i] := ⟨_, rfl⟩
    rw [← hk] at g1
    have kk2 : Hid (k = l[i]) := ⟨hk⟩
    clear hk
    have w1 := wrap_succ (n := i) (by omega)
    have hil3 : i * 3 < l.length * 3 := by omega
    have lT : (l.take i).length = i := by simp; omega
    cases hok : kOk k.kind with
    | false =>
      have km := kMiss hok
      rw [← kk.out.1] at km
      have eo := okKeys_stop hil hI.out.2.2 (by rw [← kk2.out]; exact hok)
      have fin := fun S Q hs hq => ord_ret (st := st) (S := S) (bo := bo) (o := o) (a := a) (L := l.take i) (c := false) (Q := Q) ho ha hab hbo han hI.out.1 hI.out.2.1 hs hq
      have e : ¬ i = l.length := by omega
      cases o with
      | none =>
        unfold StoreP
        clear kk hI
        repeat' (first 
         | (with_reducible refine Fresh.intro fun b hb => ?_) <;> (try simp -dsimp -implicitDefEqProofs [*] at hb)
         | (simp -dsimp -implicitDefEqProofs [-xappend_list, -Ke.row_sub, -List.take_append_drop, *]))
        refine fin _ _ ?_ ⟨?_, rfl⟩
        · unfold StoreP
          simp [*]
        · rfl
      | some c =>
        have ho2 : ¬ c.b = bo ∧ ¬ bo = c.b ∧ ¬ c.b = a.b ∧ ¬ a.b = c.b ∧ snew st c.b := by
          have := ho.2
          simp only [snew] at this
          exact ⟨this.2.1.2, this.2.1.1, this.1.2, this.1.1, this.2.2⟩
        unfold StoreP
        clear kk hI
        repeat' (first 
         | (with_reducible refine Fresh.intro fun b hb => ?_) <;> (try simp -dsimp -implicitDefEqProofs [*] at hb)
         | (simp -dsimp -implicitDefEqProofs [-xappend_list, -Ke.row_sub, *]))
        refine fin _ _ ?_ ⟨?_, rfl⟩
        · unfold StoreP
          simp [*]
        · rfl
    | true =>
      obtain ⟨j, hj1, hj2⟩ := kLook hok
      rw [← kk.out.1] at hj1
      rw [← kk.out.2] at hj2
      cases o with
      | none =>
        unfold StoreP
        repeat' (first 
         | (with_reducible refine Fresh.intro fun b hb => ?_) <;> (try simp -dsimp -implicitDefEqProofs [*] at hb)
         | (with_reducible refine Lit.imm ?_)
         | (simp -dsimp -implicitDefEqProofs [-xappend_list, -Ke.row_sub, *]))
        rename_i b6 h6
        revert b; intro b7 h7
        refine xappend_acc0 (row := ids) ids_len [.func (.func F.ties_plain_2) [] [.ptr b7 0, .ptr b6 0]] rfl rfl (by omega) (by omega) fun r hr hrl hrb => ?_
        simp only [snew] at hrb
        have hal : Hid (a.l.length = i + 1) := ⟨by rw [hI.out.2.1]; unfold firstRow; rw [List.length_cons, List.length_map, lT]⟩
        have hrl : Hid (r.l = hasRow (l.take i) ++ [.func (.func F.ties_plain_2) [] [.ptr b7 0, .ptr b6 0]]) := ⟨by rw [← hI.out.1, hrl]; rfl⟩
        repeat' (first 
         | (with_reducible refine Lit.imm ?_)
         | (simp -dsimp -implicitDefEqProofs [-xappend_list, -Ke.row_sub, *]))
        refine xappend_acc (row := ids) ids_len ids_app ha (by simp [*]) [.func (.func F.ties_plain_3) [] [.ptr b7 0, .ptr b6 0]] rfl rfl (by have := hal.out; omega) fun a2 ha2 hal2 hab2 => ?_
        have hll : a2.l.length = a.l.length + 1 := by rw [hal2]; simp
        have hal2 : Hid (a2.l = firstRow (l.take i) ++ [.func (.func F.ties_plain_3) [] [.ptr b7 0, .ptr b6 0]]) := ⟨by rw [hal2, hI.out.2.1]⟩
        simp -dsimp -implicitDefEqProofs [*] at hab2
        repeat' (simp -dsimp -implicitDefEqProofs [-xappend_list, -Ke.row_sub, *])
        have hlr : r.l.length = 1 := by rw [hrl.out, ← hI.out.1]; rfl
        have n1 : ¬ r.b = b7 ∧ ¬ r.b = b6 ∧ ¬ a2.b = b7 ∧ ¬ a2.b = b6 ∧ ¬ a2.b = r.b ∧ ¬ r.b = a2.b ∧ ¬ a2.b = bo ∧ ¬ r.b = bo ∧ ¬ b7 = bo ∧ ¬ b6 = bo := by omega
        have n2 : snew st r.b ∧ snew st a2.b ∧ snew st b6 ∧ snew st b7 := ⟨hrb.2.2.2.2, hab2.2.2.2.2, h6.2.2, h7.2.2.2⟩
        refine ord_next (st := st) (bo := bo) (b7 := b7) (b6 := b6) (k := k) [(0, Ke.lst l), (2, .ptr bo 0), (4, .imap ks vs), (15, Ke.lst l), (16, .int l.length), (17, .int ((i + 1 : Nat) : Int))] hr ha2 hrl.out hal2.out
          ⟨by omega, by omega, by omega, by omega, n2.2.2.2⟩ ⟨by omega, by omega, by omega, n2.2.2.1⟩ ?_ (by simp) ?_
        · rw [hlr, hll]
          exact (by repeat' (first | exact StLe.refl _ | (refine StLe_cons (by simp [*]; done) ?_) | (refine StLe_fresh (by simp [*]; done) ?_)))
        · intro r' a' q1 q2 q3 q4 q5 q6
          refine ⟨(i + 1, some r', a'), ⟨by simp only; omega, ⟨q1, ?_⟩, q2, by rw [q4]; exact n2.2.1, by rw [q4]; omega, ⟨?_, ?_, ?_⟩⟩, by simp only; omega, rfl, rfl⟩
          · simp only [snew, q3, q4]
            exact ⟨by omega, by omega, n2.1⟩
          · exact q5.trans (hasRow_snoc hil kk2.out)
          · exact q6.trans (firstRow_snoc hil kk2.out)
          · exact okKeys_step hil hI.out.2.2 (by rw [← kk2.out]; exact hok)
      | some c =>
        have ho2 : ¬ c.b = bo ∧ ¬ bo = c.b ∧ ¬ c.b = a.b ∧ ¬ a.b = c.b ∧ snew st c.b := by
          have := ho.2
          simp only [snew] at this
          exact ⟨this.2.1.2, this.2.1.1, this.1.2, this.1.1, this.2.2⟩
        unfold StoreP
        repeat' (first 
         | (with_reducible refine Fresh.intro fun b hb => ?_) <;> (try simp -dsimp -implicitDefEqProofs [*] at hb)
         | (with_reducible refine Lit.imm ?_)
         | (simp -dsimp -implicitDefEqProofs [-xappend_list, -Ke.row_sub, *]))
        rename_i b6 h6
        revert b; intro b7 h7
        have hcl : Hid (c.l.length = i) := ⟨by have := hI.out.1; simp only [accL_some] at this; rw [this]; unfold hasRow; rw [List.length_map, lT]⟩
        refine xappend_acc (row := ids) ids_len ids_app ho.1 (by simp [*]) [.func (.func F.ties_plain_2) [] [.ptr b7 0, .ptr b6 0]] rfl rfl (by have := hcl.out; omega) fun r hr hrl0 hrb => ?_
        have hrl : Hid (r.l = hasRow (l.take i) ++ [.func (.func F.ties_plain_2) [] [.ptr b7 0, .ptr b6 0]]) := ⟨by rw [← hI.out.1, hrl0]; rfl⟩
        clear hrl0
        simp -dsimp -implicitDefEqProofs [*] at hrb
        have hal : Hid (a.l.length = i + 1) := ⟨by rw [hI.out.2.1]; unfold firstRow; rw [List.length_cons, List.length_map, lT]⟩
        repeat' (first 
         | (with_reducible refine Lit.imm ?_)
         | (simp -dsimp -implicitDefEqProofs [-xappend_list, -Ke.row_sub, *]))
        refine xappend_acc (row := ids) ids_len ids_app ha (by simp [*]) [.func (.func F.ties_plain_3) [] [.ptr b7 0, .ptr b6 0]] rfl rfl (by have := hal.out; omega) fun a2 ha2 hal2 hab2 => ?_
        have hll : a2.l.length = a.l.length + 1 := by rw [hal2]; simp
        have hal2 : Hid (a2.l = firstRow (l.take i) ++ [.func (.func F.ties_plain_3) [] [.ptr b7 0, .ptr b6 0]]) := ⟨by rw [hal2, hI.out.2.1]⟩
        simp -dsimp -implicitDefEqProofs [*] at hab2
        repeat' (simp -dsimp -implicitDefEqProofs [-xappend_list, -Ke.row_sub, *])
        have n1 : ¬ r.b = b7 ∧ ¬ r.b = b6 ∧ ¬ a2.b = b7 ∧ ¬ a2.b = b6 ∧ ¬ a2.b = r.b ∧ ¬ r.b = a2.b ∧ ¬ a2.b = bo ∧ ¬ r.b = bo ∧ ¬ b7 = bo ∧ ¬ b6 = bo := by omega
        have n2 : snew st r.b ∧ snew st a2.b ∧ snew st b6 ∧ snew st b7 := ⟨hrb.2.2.2.2, hab2.2.2.2.2, h6.2.2.2, h7.2.2.2.2⟩
        refine ord_next (st := st) (bo := bo) (b7 := b7) (b6 := b6) (k := k) [(0, Ke.lst l), (2, .ptr bo 0), (4, .imap ks vs), (15, Ke.lst l), (16, .int l.length), (17, .int ((i + 1 : Nat) : Int))] hr ha2 hrl.out hal2.out
          ⟨by omega, by omega, by omega, by omega, n2.2.2.2⟩ ⟨by omega, by omega, by omega, n2.2.2.1⟩ ?_ (by simp) ?_
        · rw [hll]
          exact (by repeat' (first | exact StLe.refl _ | (refine StLe_cons (by simp [*]; done) ?_) | (refine StLe_fresh (by simp [*]; done) ?_)))
        · intro r' a' q1 q2 q3 q4 q5 q6
          refine ⟨(i + 1, some r', a'), ⟨by simp only; omega, ⟨q1, ?_⟩, q2, by rw [q4]; exact n2.2.1, by rw [q4]; omega, ⟨?_, ?_, ?_⟩⟩, by simp only; omega, rfl, rfl⟩
          · simp only [snew, q3, q4]
            exact ⟨by omega, by omega, n2.1⟩
          · exact q5.trans (hasRow_snoc hil kk2.out)
          · exact q6.trans (firstRow_snoc hil kk2.out)
          · exact okKeys_step hil hI.out.2.2 (by rw [← kk2.out]; exact hok)
  · have e : i = l.length := by omega
    have lT : l.take i = l := by rw [e]; exact List.take_length
    rw [lT] at hI
    have fin := fun c S Q hs hq => ord_ret (st := st) (S := S) (bo := bo) (o := o) (a := a) (L := l) (c := c) (Q := Q) ho ha hab hbo han hI.out.1 hI.out.2.1 hs hq
    have eo := hI.out.2.2
    subst e
    cases o with
    | none =>
      unfold StoreP
      clear kk hI lT
      repeat' (simp -dsimp -implicitDefEqProofs [-xappend_list, *])
      refine fin _ _ _ ?_ ⟨?_, rfl⟩
      · unfold StoreP
        simp [*]
      · simp [*]; omega
    | some c =>
      have ho2 : ¬ c.b = bo ∧ ¬ bo = c.b ∧ ¬ c.b = a.b ∧ ¬ a.b = c.b ∧ snew st c.b := by
        have := ho.2
        simp only [snew] at this
        exact ⟨this.2.1.2, this.2.1.1, this.1.2, this.1.1, this.2.2⟩
      unfold StoreP
      clear kk hI lT
      repeat' (simp -dsimp -implicitDefEqProofs [-xappend_list, *])
      refine fin _ _ _ ?_ ⟨?_, rfl⟩
      · unfold StoreP
        simp [*]
      · simp [*]; omega
end Go.Proofs.Ytliglilanpfjhaa
