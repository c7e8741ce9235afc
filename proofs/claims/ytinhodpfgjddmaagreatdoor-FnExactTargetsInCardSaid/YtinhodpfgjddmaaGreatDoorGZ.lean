/- All of them. -/
import Derived.Test.YtinhodpfgjddmaaGreatDoorGZ1
import Derived.Test.YtinhodpfgjddmaaGreatDoorGZ2
