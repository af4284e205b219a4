/- Continuation style: what is done with a result does not matter to how it is found. -/
import Derived.Test.YtllgdcepgelahaaDoorEv3
namespace Go.Ev

section
variable {R S : Type}
theorem sel_true (x y : Option R) : sel true x y = x := rfl
theorem sel_false (x y : Option R) : sel false x y = y := rfl
@[simp] theorem sel_bind (b : Bool) (x y : Option R) (K : R → Option S) : (sel b x y).bind K = sel b (x.bind K) (y.bind K) := by cases b <;> rfl
theorem sel_some {b : Bool} {x : Option R} {r : R} (h : sel b x none = some r) : b = true ∧ x = some r := by
  cases b
  · cases h
  · exact ⟨rfl, h⟩
theorem sel_some' {b : Bool} {x : Option R} {r : R} (h : sel b none x = some r) : b = false ∧ x = some r := by
  cases b
  · exact ⟨rfl, h⟩
  · cases h

@[simp] theorem Blk.get_push (c : Blk) (i : Nat) (K : AV → Option R) (J : R → Option S) : (c.get i K).bind J = c.get i fun v => (K v).bind J := by
  unfold Blk.get; repeat' split
  all_goals simp
@[simp] theorem Blk.set_push (c : Blk) (i : Nat) (v : AV) (K : Blk → Option R) (J : R → Option S) : (c.set i v K).bind J = c.set i v fun v => (K v).bind J := by
  unfold Blk.set; split <;> simp
@[simp] theorem Blk.sub_push (c : Blk) (i n : Nat) (K : Blk → Option R) (J : R → Option S) : (c.sub i n K).bind J = c.sub i n fun v => (K v).bind J := by
  unfold Blk.sub; split <;> simp
@[simp] theorem Blk.put_push (c : Blk) (i : Nat) (d : Blk) (K : Blk → Option R) (J : R → Option S) : (c.put i d K).bind J = c.put i d fun v => (K v).bind J := by
  unfold Blk.put; split <;> simp
@[simp] theorem Blk.app_push (c d : Blk) (K : Blk → Option R) (J : R → Option S) : (c.app d K).bind J = c.app d fun v => (K v).bind J := by
  unfold Blk.app; split <;> simp
@[simp] theorem binA_push (E : Env) (op : BinOp) (xt : TypeId) (x y : AV) (K : AV → Option R) (J : R → Option S) : (binA E op xt x y K).bind J = binA E op xt x y fun v => (K v).bind J := by
  unfold binA; repeat' split
  all_goals simp
  all_goals split
  all_goals simp
  all_goals split
  all_goals simp
@[simp] theorem unA_push (op : UnOp) (x : AV) (K : AV → Option R) (J : R → Option S) : (unA op x K).bind J = unA op x fun v => (K v).bind J := by
  unfold unA; split <;> simp
@[simp] theorem partA_push (E : Env) (t : TypeId) (c : Blk) (off : Nat) (K : AV → Option R) (J : R → Option S) : (partA E t c off K).bind J = partA E t c off fun v => (K v).bind J := by
  unfold partA; split <;> simp
@[simp] theorem idxAddrA_push (E : Env) (t : TypeId) (x : AV) (i : Int) (K : AV → Option R) (J : R → Option S) : (idxAddrA E t x i K).bind J = idxAddrA E t x i fun v => (K v).bind J := by
  unfold idxAddrA; repeat' split
  all_goals simp
@[simp] theorem idxA_push (E : Env) (t : TypeId) (x : AV) (i : Int) (K : AV → Option R) (J : R → Option S) : (idxA E t x i K).bind J = idxA E t x i fun v => (K v).bind J := by
  unfold idxA; repeat' split
  all_goals simp
@[simp] theorem fldAddrA_push (E : Env) (s : TypeId) (x : AV) (f : Nat) (K : AV → Option R) (J : R → Option S) : (fldAddrA E s x f K).bind J = fldAddrA E s x f fun v => (K v).bind J := by
  unfold fldAddrA; repeat' split
  all_goals simp
@[simp] theorem fldA_push (E : Env) (s : TypeId) (x : AV) (f : Nat) (K : AV → Option R) (J : R → Option S) : (fldA E s x f K).bind J = fldA E s x f fun v => (K v).bind J := by
  unfold fldA; repeat' split
  all_goals simp
@[simp] theorem sliceA_push (E : Env) (t : TypeId) (x : AV) (lo hi mx : Option AV) (K : AV → Option R) (J : R → Option S) : (sliceA E t x lo hi mx K).bind J = sliceA E t x lo hi mx fun v => (K v).bind J := by
  unfold sliceA; repeat' split
  all_goals simp
@[simp] theorem sliceArrA_push (E : Env) (h : H) (t : TypeId) (x : AV) (lo hi mx : Option AV) (K : AV → Option R) (J : R → Option S) : (sliceArrA E h t x lo hi mx K).bind J = sliceArrA E h t x lo hi mx fun v => (K v).bind J := by
  unfold sliceArrA; repeat' split
  all_goals simp
@[simp] theorem cvtA_push (E : Env) (src dst : TypeId) (x : AV) (K : AV → Option R) (J : R → Option S) : (cvtA E src dst x K).bind J = cvtA E src dst x fun v => (K v).bind J := by
  unfold cvtA; repeat' split
  all_goals simp
@[simp] theorem lenA_push (E : Env) (t : TypeId) (x : AV) (K : AV → Option R) (J : R → Option S) : (lenA E t x K).bind J = lenA E t x fun v => (K v).bind J := by
  unfold lenA; repeat' split
  all_goals simp
@[simp] theorem readVar_push (i : TI) (c : Blk) (off : Nat) (K : AV → Option R) (J : R → Option S) : (readVar i c off K).bind J = readVar i c off fun v => (K v).bind J := by
  unfold readVar; simp
@[simp] theorem loadA_push (E : Env) (h : H) (t : TypeId) (a : AV) (K : AV → Option R) (J : R → Option S) : (loadA E h t a K).bind J = loadA E h t a fun v => (K v).bind J := by
  unfold loadA; repeat' split
  all_goals simp
@[simp] theorem storeA_push (E : Env) (h : H) (t : TypeId) (a v : AV) (K : H → Option R) (J : R → Option S) : (storeA E h t a v K).bind J = storeA E h t a v fun v => (K v).bind J := by
  unfold storeA; repeat' split
  all_goals simp
@[simp] theorem readSl_push (h : H) (x : AV) (K : Blk → Option R) (J : R → Option S) : (readSl h x K).bind J = readSl h x fun v => (K v).bind J := by
  unfold readSl; repeat' split
  all_goals simp
@[simp] theorem appendA_push (E : Env) (h : H) (slot : Nat) (t : TypeId) (s x : AV) (K : AV → H → Option R) (J : R → Option S) : (appendA E h slot t s x K).bind J = appendA E h slot t s x fun v h => (K v h).bind J := by
  unfold appendA; repeat' split
  all_goals simp
@[simp] theorem copyA_push (E : Env) (h : H) (t : TypeId) (d x : AV) (K : AV → H → Option R) (J : R → Option S) : (copyA E h t d x K).bind J = copyA E h t d x fun v h => (K v h).bind J := by
  unfold copyA; repeat' split
  all_goals simp
@[simp] theorem makeSl_push (E : Env) (h : H) (slot : Nat) (t : TypeId) (l c : AV) (K : AV → H → Option R) (J : R → Option S) : (makeSl E h slot t l c K).bind J = makeSl E h slot t l c fun v h => (K v h).bind J := by
  unfold makeSl; repeat' split
  all_goals simp
@[simp] theorem buildSlA_push (E : Env) (h : H) (slot : Nat) (t : TypeId) (len : Nat) (ps : List (Nat × AV)) (K : AV → H → Option R) (J : R → Option S) : (buildSlA E h slot t len ps K).bind J = buildSlA E h slot t len ps fun v h => (K v h).bind J := by
  unfold buildSlA; repeat' split
  all_goals simp
@[simp] theorem builtinA_push (E : Env) (h : H) (slot : Nat) (b : Builtin) (ts : List TypeId) (xs : List AV) (K : AV → H → Option R) (J : R → Option S) : (builtinA E h slot b ts xs K).bind J = builtinA E h slot b ts xs fun v h => (K v h).bind J := by
  unfold builtinA; repeat' split
  all_goals simp

/-- A way to tell calls that does not look at what goes on behind. -/
def CallNat (call : CallF) : Prop := ∀ f args h slot (R S : Type) (K : AV → H → Option R) (J : R → Option S), (call f args h slot R K).bind J = call f args h slot S fun v h => (K v h).bind J

theorem evOp_push (E : Env) {call : CallF} (hc : CallNat call) (t : List AV) (h : H) (slot : Nat) (o : Oper) (K : AV → H → Option R) (J : R → Option S) :
    (evOp E call t h slot o K).bind J = evOp E call t h slot o fun v h => (K v h).bind J := by
  unfold evOp; repeat' split
  all_goals first | (simp; done) | rw [hc]

theorem of_bind {α : Type} {f : Option α} {K : α → Option R} {r : R} (h : f.bind K = some r) : ∃ z, f = some z ∧ K z = some r := by
  cases f with
  | none => cases h
  | some z => exact ⟨z, rfl, h⟩

/-- What an operation comes to, whatever goes on behind. -/
theorem evOp_says (E : Env) {call : CallF} (hc : CallNat call) {t : List AV} {h : H} {slot : Nat} {o : Oper} {K : AV → H → Option R} {r : R} (hr : evOp E call t h slot o K = some r) :
    ∃ v h1, evOp E call t h slot o (fun v h => some (v, h)) = some (v, h1) ∧ K v h1 = some r := by
  have e := evOp_push E hc t h slot o (fun v h => some (v, h)) fun p => K p.1 p.2
  simp only [Option.bind_some] at e
  rw [hr] at e
  obtain ⟨⟨v, h1⟩, h2, h3⟩ := of_bind e
  exact ⟨v, h1, h2, h3⟩
/-- And what goes on behind begins there. -/
theorem evOp_then (E : Env) {call : CallF} (hc : CallNat call) {t : List AV} {h : H} {slot : Nat} {o : Oper} {v : AV} {h1 : H} (hr : evOp E call t h slot o (fun v h => some (v, h)) = some (v, h1)) (K : AV → H → Option R) :
    evOp E call t h slot o K = K v h1 := by
  have e := evOp_push E hc t h slot o (fun v h => some (v, h)) fun p => K p.1 p.2
  simp only [Option.bind_some] at e
  rw [← e, hr]; rfl
end
end Go.Ev
