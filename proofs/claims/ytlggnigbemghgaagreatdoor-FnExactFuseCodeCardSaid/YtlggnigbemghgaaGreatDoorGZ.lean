/- All of them. -/
import Derived.Test.YtlggnigbemghgaaGreatDoorGZ1
import Derived.Test.YtlggnigbemghgaaGreatDoorGZ2
